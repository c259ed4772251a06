/- Bytes in memory, numerals, and the tables' ground, for the laws of stats and query. -/
import Derived.Test.YtbpcknjobbjmpaaDoorProg
import Derived.Test.YtbpcknjobbjmpaaDoorShelf
import Derived.WalkKit
import Derived.Lib.Hide
import Derived.Maps.AppendAt
import Derived.Deep.AppendLies
import Derived.Deep.Onto
import Derived.Lib.SliceRun
import Derived.Lib.ConvBytes
import Derived.RegionTactic
import Derived.Laws.StructEq
import Derived.Laws.Rows
import Derived.IntWalk
import Derived.Deep.Draws
import Derived.WalkSmall
import Derived.Lib.AppendIntMem
import Derived.Deep.RegionHeld
namespace Go.Proofs.YtbpcknjobbjmpaaDoor
open Go.RowKit
set_option linter.unusedVariables false
set_option linter.unusedSimpArgs false

theorem owns_below {w w' : World} {base : Nat} {e : TypeId} {size : Nat} {v : Value} {n : Nat} {xs : List Value} (h : w.ownsRow base e size v n xs) (hb : Below w.heap.size w w') : w'.ownsRow base e size v n xs := by
  have hg : w.grownBy w' none := ⟨hb.os, hb.tape, hb.output, hb.size, fun i hi _ => hb.block i hi⟩
  refine h.kept hg ?_
  cases hv : v.ownBlock with
  | none => exact .inl rfl
  | some k => exact .inr (by simp)
/-- A slice of bytes in memory of one's own: it holds these numbers. -/
def OwnB (w : World) (base : Nat) (v : Value) (l : List Nat) : Prop := w.ownsRow base 5 1 v l.length (l.map fun n : Nat => Value.int .u8 (n : Int))
theorem cells_new (w : World) (cs : List Value) (t : TypeId) : ∀ j u, cs[j]? = some u → (w.alloc (.cells cs.toArray t)).cell? ((⟨w.heap.size, 0, none⟩ : Addr).add j) = some u := by
  intro j u hj
  have ha : ((⟨w.heap.size, 0, none⟩ : Addr).add j) = ⟨w.heap.size, j, none⟩ := by unfold Addr.add; split <;> simp_all
  rw [ha, cell_of_row _ _ _ _ _ _ (heap_alloc_new w _)]
  simpa using hj
theorem info_parts {t : TypeId} {z : Option Value} {a b : Nat} (h : (Tryd.prog.info? t).map (fun i => (i.zero, i.size, i.bytes)) = some (z, a, b)) : ∃ i, Tryd.prog.info? t = some i ∧ i.zero = z ∧ i.size = a ∧ i.bytes = b := by
  cases hi : Tryd.prog.info? t with
  | none => rw [hi] at h; simp at h
  | some i => rw [hi] at h; simp at h; exact ⟨i, rfl, h.1, h.2.1, h.2.2⟩
theorem u8_info : (Tryd.prog.info? 5).map (fun i => (i.zero, i.size, i.bytes)) = some (some (.int .u8 0), 1, 1) := by kernel_rfl
theorem ownB_snoc {w : World} {base : Nat} {v : Value} {l : List Nat} {b : Nat} (h : w.ownsRow base 5 1 v (l.length + 1) (l.map (fun n : Nat => Value.int .u8 (n : Int)) ++ [Value.int .u8 (b : Int)])) : OwnB w base v (l ++ [b]) := by
  unfold OwnB
  rw [List.length_append, List.map_append]
  exact h
/-- Bytes in memory. -/
def BytesN (W : World) (oa : Option Addr) (bs : List Nat) : Prop := ∀ i, i < bs.length → ∃ a, oa = some a ∧ W.cell? (a.add i) = some (.int .u8 (bs.getD i 0 : Nat))
theorem cell_eq {W W' : World} {a : Addr} (h : W'.heap[a.block]? = W.heap[a.block]?) : W'.cell? a = W.cell? a := by unfold World.cell?; rw [h]
theorem BytesN.below {W W' : World} {oa : Option Addr} {bs : List Nat} (h : BytesN W oa bs) (hn : Below W.heap.size W W') : BytesN W' oa bs := by
  intro i hi
  obtain ⟨a, ha, hc⟩ := h i hi
  exact ⟨a, ha, (cell_eq (hn.block _ (World.block_lt_of_cell? _ _ hc))).trans hc⟩
/-- The bytes read as a text. -/
theorem text_own (W : World) (base : Nat) (v : Value) (l : List UInt8) (h : OwnB W base v (l.map UInt8.toNat)) :
    (convert 105 9 v).run Tryd.prog W = .ok (.string ⟨l.toArray⟩) W := by
  rcases h.2 with ⟨rfl, h0⟩ | ⟨g, cap, cur, rfl, hb, hg, hn, hm, hs, ht⟩
  · have : l = [] := by simpa using h0
    subst this
    rw [run_convert_bytes_string W _ _ 5 none 0 0 Tryd.underlying105 Tryd.underlying5 Tryd.underlying9]
    rfl
  · have hl : (l.map UInt8.toNat).length = l.length := by simp
    rw [hl]
    refine run_convert_bytes_back W _ _ 5 ⟨g, 0, none⟩ cap l Tryd.underlying105 Tryd.underlying5 Tryd.underlying9 (fun j hj => ?_)
    exact World.ownsRow.cells h rfl j _ (by simp [List.getElem?_eq_getElem hj])
theorem ownB_bytes {w : World} {B : Nat} {v : Value} {l : List Nat} (h : OwnB w B v l) : ∃ oa cap, v = .slice oa l.length cap ∧ BytesN w oa l ∧ ∀ a, oa = some a → B ≤ a.block ∧ a.block < w.heap.size := by
  rcases h.2 with ⟨rfl, h0⟩ | ⟨g, cap, cur, rfl, hb, hg, hn, hm, hs, ht⟩
  · exact ⟨none, 0, by rw [h0], fun i hi => by omega, fun a ha => by cases ha⟩
  · refine ⟨some ⟨g, 0, none⟩, cap, rfl, fun i hi => ⟨_, rfl, ?_⟩, fun a ha => ?_⟩
    · exact World.ownsRow.cells h rfl i _ (by simp [List.getElem?_eq_getElem hi])
    · obtain rfl := Option.some.inj ha
      exact ⟨hb, (Array.getElem?_eq_some_iff.1 hg).1⟩
theorem OwnB.step {w w' : World} {B : Nat} {v : Value} {l : List Nat} (h : OwnB w B v l) (hk : ∀ k, B ≤ k → k < w.heap.size → w'.heap[k]? = w.heap[k]?) : OwnB w' B v l := by
  refine ⟨h.1, h.2.imp id ?_⟩
  rintro ⟨g, cap, cur, h1, h2, h3, h4⟩
  exact ⟨g, cap, cur, h1, h2, (hk g h2 (Array.getElem?_eq_some_iff.1 h3).1).trans h3, h4⟩
def bytesU (s : ByteArray) : List Nat := s.data.toList.map UInt8.toNat
theorem bytesU_len (s : ByteArray) : (bytesU s).length = s.size := by unfold bytesU; rw [List.length_map, Array.length_toList]; rfl
theorem OwnB.mono {w : World} {B B' : Nat} {v : Value} {l : List Nat} (h : OwnB w B v l) (hb : B' ≤ B) : OwnB w B' v l := World.ownsRow.mono h hb
def bsB (bs : List Nat) : ByteArray := ⟨(bs.map UInt8.ofNat).toArray⟩
theorem conv_bytes (W : World) (oa : Option Addr) (n cap : Nat) (bs : List Nat) (hn : bs.length = n) (h : BytesN W oa bs) (hb : ∀ i, i < bs.length → bs.getD i 0 < 256) :
    (convert 105 9 (.slice oa n cap)).run Tryd.prog W = .ok (.string (bsB bs)) W := by
  subst hn
  cases oa with
  | none =>
    have : bs = [] := by
      cases bs with
      | nil => rfl
      | cons x l => obtain ⟨a, ha, _⟩ := h 0 (by simp); cases ha
    subst this
    rw [run_convert_bytes_string W _ _ 5 none _ _ Tryd.underlying105 Tryd.underlying5 Tryd.underlying9]
    rfl
  | some a =>
    have hl : (bs.map UInt8.ofNat).length = bs.length := by simp
    rw [← hl]
    refine run_convert_bytes_back W _ _ 5 a cap (bs.map UInt8.ofNat) Tryd.underlying105 Tryd.underlying5 Tryd.underlying9 (fun j hj => ?_)
    rw [hl] at hj
    obtain ⟨a', ha, hc⟩ := h j hj
    obtain rfl := Option.some.inj ha
    have h2 := hb j hj
    rw [hc]
    rw [List.getD_eq_getElem?_getD, List.getElem?_eq_getElem hj, Option.getD_some] at h2
    simp [List.getD_eq_getElem?_getD, List.getElem?_eq_getElem hj]
    omega
theorem ownB_app {w' : World} {B : Nat} {v : Value} {a b : List Nat} (h : w'.ownsRow B 5 1 v (a.length + b.length) (a.map (fun n : Nat => Value.int .u8 (n : Int)) ++ b.map (fun n : Nat => Value.int .u8 (n : Int)))) : OwnB w' B v (a ++ b) := by
  unfold OwnB
  rw [List.length_append, List.map_append]
  exact h
theorem one_bytes (l : List Nat) : ∀ u ∈ (l.map fun n : Nat => Value.int .u8 (n : Int)), u.oneCell' = true := by
  intro u hu
  obtain ⟨x, _, rfl⟩ := List.mem_map.1 hu
  rfl
theorem len_bytes (l : List Nat) : (l.map fun n : Nat => Value.int .u8 (n : Int)).length = l.length * 1 := by rw [List.length_map, Nat.mul_one]
def decS (n : Nat) : ByteArray := ⟨(Lib.decDigits n).toArray⟩
/-- The table of powers is as the program's text lays it. -/
def Tab (w : World) : Prop := Lib.TabIs Tryd.prog w "internal/strconv.uint64pow10" .u64 Lib.pow10Tab
theorem pow_global : ∃ g, Tryd.prog.globalNamed "internal/strconv.uint64pow10" = some g := Option.isSome_iff_exists.1 (by kernel_rfl)
theorem Tab.below {w W : World} (h : Tab w) (hb : Below w.heap.size w W) : Tab W := by
  obtain ⟨g, hg⟩ := pow_global
  have hc := Lib.TabIs.cell h hg 0 (by decide)
  exact var?_below hb hg (World.block_lt_of_cell? _ _ hc) h
theorem itoa_any (n : Nat) (hn : n ≤ 4294967295) (w : World) (hT : Tab w) : Calls Tryd.prog 45 #[.int .i64 (n : Int)] w fun e w' => e = .returned (.string (decS n)) ∧ Below w.heap.size w w' :=
  (Tryd.strconv_Itoa (n : Int) (by omega) (by omega) w hT).mono (by
    rintro e w' ⟨rfl, k, os, rfl⟩
    exact ⟨by rw [Lib.itoa_nonneg]; rfl, Lib.below_grow _ _ (Nat.le_refl _) _ _⟩)
theorem decS_one {n : Nat} (h : n < 10) : decS n = ⟨#[UInt8.ofNat (48 + n)]⟩ := by unfold decS; rw [Lib.decDigits_one h]
theorem decS_more {n : Nat} (h : ¬ n < 10) : decS n = decS (n / 10) ++ decS (n % 10) := by
  have h1 : Lib.decDigits n = Lib.decDigits (n / 10) ++ [UInt8.ofNat (48 + n % 10)] := by rw [Lib.decDigits, dif_neg h]
  unfold decS
  rw [h1, Lib.decDigits_one (Nat.mod_lt n (by omega))]
  apply ByteArray.ext
  simp
theorem nDigits_le : ∀ (k n : Nat), n < 10 ^ (k + 1) → Lib.nDigits n ≤ k + 1
  | 0, n, h => by rw [Lib.nDigits, dif_pos (by simpa using h)]; exact Nat.le_refl _
  | k + 1, n, h => by
    rw [Lib.nDigits]
    split
    · omega
    · have := nDigits_le k (n / 10) (by rw [Nat.pow_succ] at h; omega)
      omega
theorem decS_size (n : Nat) (h : n ≤ 4294967295) : (decS n).size ≤ 10 := by
  have h1 : (decS n).size = Lib.nDigits n := by rw [← Lib.decDigits_length]; rfl
  rw [h1]
  exact nDigits_le 9 n (by omega)
set_option maxRecDepth 100000 in
set_option maxHeartbeats 1000000 in
theorem show_any : ∀ (n : Nat), n ≤ 4294967295 → ∀ (w : World), Calls Tryd.prog 46 #[.int .i64 (n : Int)] w fun e w' => e = .returned (.string (decS n)) ∧ Below w.heap.size w w' := by
  intro n
  induction n using Nat.strongRecOn with
  | _ n ih =>
    intro hn w
    by_cases h : n < 10
    · have q : decide ((9 : Int) < (n : Int)) = false := decide_eq_false (by omega)
      have hw1 : IntKind.u8.wrap (n : Int) = (n : Int) := IntWalk.u8_in _ (by omega)
      have hw2 : IntKind.u8.wrap (48 + (n : Int)) = ((48 + n : Nat) : Int) := IntWalk.u8_in _ (by omega)
      have HD := Lib.hid (decS_one h)
      go_enter Tryd.func46, Tryd.ntmps46
      have hby : BytesN (w.alloc (.cells #[.int .u8 (48 + (n : Int))] 5)) (some ⟨w.heap.size, 0, none⟩) [48 + n] := fun i hi => by
        obtain rfl : i = 0 := by simp at hi; omega
        exact ⟨_, rfl, cells_new w [Value.int .u8 (48 + (n : Int))] _ 0 _ rfl⟩
      have hcv := conv_bytes (w.alloc (.cells #[.int .u8 (48 + (n : Int))] 5)) _ 1 1 [48 + n] rfl hby (fun i hi => by
        obtain rfl : i = 0 := by simp at hi; omega
        simp; omega)
      have HB := Lib.hid ((Below.refl w.heap.size w).alloc (Nat.le_refl _) (.cells #[.int .u8 (48 + (n : Int))] 5))
      have HS := Lib.hid (show bsB [48 + n] = decS n from by rw [HD.out]; rfl)
      generalize bsB [48 + n] = S at hcv HS
      clear hby
      go_wp2_with fail
      go_ret
      exact ⟨by rw [← HS.out]; rfl, HB.out⟩
    · have q : decide ((9 : Int) < (n : Int)) = true := decide_eq_true (by omega)
      have I1 := Lib.hid (ih (n / 10) (by omega) (by omega))
      have I2 := Lib.hid (ih (n % 10) (by omega) (by omega))
      have HD := Lib.hid (decS_more h)
      have hx1 : (n : Int) / 10 = ((n / 10 : Nat) : Int) := rfl
      have hx2 : (n : Int) % 10 = ((n % 10 : Nat) : Int) := rfl
      have hy1 : n / 10 ≤ 4294967295 := by omega
      have hy2 : n % 10 ≤ 4294967295 := by omega
      have hsa := decS_size (n / 10) hy1
      have hsb := decS_size (n % 10) hy2
      generalize n / 10 = a at hsa I1 HD hx1 hy1
      generalize n % 10 = b at hsb I2 HD hx2 hy2
      have hw1 : IntKind.i64.wrap (a : Int) = (a : Int) := IntWalk.i64_in _ (by omega)
      have hw2 : IntKind.i64.wrap (b : Int) = (b : Int) := IntWalk.i64_in _ (by omega)
      clear ih
      go_enter Tryd.func46, Tryd.ntmps46
      go_wp2_with fail
      refine (I1.out _).mono ?_
      rintro e w1 ⟨rfl, hb⟩
      have HB1 := Lib.hid hb
      clear hb
      go_wp2_with fail
      refine (I2.out _).mono ?_
      rintro e w2 ⟨rfl, hb⟩
      have HB2 := Lib.hid (HB1.out.trans (hb.mono HB1.out.size))
      clear hb
      go_wp2_with fail
      go_ret
      exact ⟨by rw [HD.out]; rfl, HB2.out⟩
#print axioms show_any
end Go.Proofs.YtbpcknjobbjmpaaDoor
