/- The base of the response laws: bytes and fields in memory. -/
import Derived.Test.YtlpapdknggjfkaaGreatDoorC00
import Derived.Maps.AppendAt
import Derived.Deep.AppendLies
import Derived.Deep.Onto
import Derived.Lib.SliceRun
import Derived.Lib.ConvBytes
import Derived.RegionTactic
import Derived.Laws.StructEq
import Derived.Laws.Rows
import Derived.IntWalk
import Derived.Deep.Draws
namespace Go.Proofs.YtlpapdknggjfkaaGreatDoor
open Go.RowKit
set_option linter.unusedVariables false
set_option linter.unusedSimpArgs false

theorem owns_below {w w' : World} {base : Nat} {e : TypeId} {size : Nat} {v : Value} {n : Nat} {xs : List Value} (h : w.ownsRow base e size v n xs) (hb : Below w.heap.size w w') : w'.ownsRow base e size v n xs := by
  have hg : w.grownBy w' none := ⟨hb.os, hb.tape, hb.output, hb.size, fun i hi _ => hb.block i hi⟩
  refine h.kept hg ?_
  cases hv : v.ownBlock with
  | none => exact .inl rfl
  | some k => exact .inr (by simp)
/-- A slice of bytes in memory of one's own: it holds these numbers. -/
def OwnB (w : World) (base : Nat) (v : Value) (l : List Nat) : Prop := w.ownsRow base 5 1 v l.length (l.map fun n : Nat => Value.int .u8 (n : Int))
theorem cells_new (w : World) (cs : List Value) (t : TypeId) : ∀ j u, cs[j]? = some u → (w.alloc (.cells cs.toArray t)).cell? ((⟨w.heap.size, 0, none⟩ : Addr).add j) = some u := by
  intro j u hj
  have ha : ((⟨w.heap.size, 0, none⟩ : Addr).add j) = ⟨w.heap.size, j, none⟩ := by unfold Addr.add; split <;> simp_all
  rw [ha, cell_of_row _ _ _ _ _ _ (heap_alloc_new w _)]
  simpa using hj
theorem info_parts {t : TypeId} {z : Option Value} {a b : Nat} (h : (Tryz.prog.info? t).map (fun i => (i.zero, i.size, i.bytes)) = some (z, a, b)) : ∃ i, Tryz.prog.info? t = some i ∧ i.zero = z ∧ i.size = a ∧ i.bytes = b := by
  cases hi : Tryz.prog.info? t with
  | none => rw [hi] at h; simp at h
  | some i => rw [hi] at h; simp at h; exact ⟨i, rfl, h.1, h.2.1, h.2.2⟩
theorem u8_info : (Tryz.prog.info? 5).map (fun i => (i.zero, i.size, i.bytes)) = some (some (.int .u8 0), 1, 1) := by kernel_rfl
theorem ownB_snoc {w : World} {base : Nat} {v : Value} {l : List Nat} {b : Nat} (h : w.ownsRow base 5 1 v (l.length + 1) (l.map (fun n : Nat => Value.int .u8 (n : Int)) ++ [Value.int .u8 (b : Int)])) : OwnB w base v (l ++ [b]) := by
  unfold OwnB
  rw [List.length_append, List.map_append]
  exact h
/-- Bytes in memory. -/
def BytesN (W : World) (oa : Option Addr) (bs : List Nat) : Prop := ∀ i, i < bs.length → ∃ a, oa = some a ∧ W.cell? (a.add i) = some (.int .u8 (bs.getD i 0 : Nat))
theorem cell_eq {W W' : World} {a : Addr} (h : W'.heap[a.block]? = W.heap[a.block]?) : W'.cell? a = W.cell? a := by unfold World.cell?; rw [h]
theorem BytesN.below {W W' : World} {oa : Option Addr} {bs : List Nat} (h : BytesN W oa bs) (hn : Below W.heap.size W W') : BytesN W' oa bs := by
  intro i hi
  obtain ⟨a, ha, hc⟩ := h i hi
  exact ⟨a, ha, (cell_eq (hn.block _ (World.block_lt_of_cell? _ _ hc))).trans hc⟩
/-- The bytes read as a text. -/
theorem text_own (W : World) (base : Nat) (v : Value) (l : List UInt8) (h : OwnB W base v (l.map UInt8.toNat)) :
    (convert 81 9 v).run Tryz.prog W = .ok (.string ⟨l.toArray⟩) W := by
  rcases h.2 with ⟨rfl, h0⟩ | ⟨g, cap, cur, rfl, hb, hg, hn, hm, hs, ht⟩
  · have : l = [] := by simpa using h0
    subst this
    rw [run_convert_bytes_string W _ _ 5 none 0 0 Tryz.underlying81 Tryz.underlying5 Tryz.underlying9]
    rfl
  · have hl : (l.map UInt8.toNat).length = l.length := by simp
    rw [hl]
    refine run_convert_bytes_back W _ _ 5 ⟨g, 0, none⟩ cap l Tryz.underlying81 Tryz.underlying5 Tryz.underlying9 (fun j hj => ?_)
    exact World.ownsRow.cells h rfl j _ (by simp [List.getElem?_eq_getElem hj])
theorem ownB_bytes {w : World} {B : Nat} {v : Value} {l : List Nat} (h : OwnB w B v l) : ∃ oa cap, v = .slice oa l.length cap ∧ BytesN w oa l ∧ ∀ a, oa = some a → B ≤ a.block ∧ a.block < w.heap.size := by
  rcases h.2 with ⟨rfl, h0⟩ | ⟨g, cap, cur, rfl, hb, hg, hn, hm, hs, ht⟩
  · exact ⟨none, 0, by rw [h0], fun i hi => by omega, fun a ha => by cases ha⟩
  · refine ⟨some ⟨g, 0, none⟩, cap, rfl, fun i hi => ⟨_, rfl, ?_⟩, fun a ha => ?_⟩
    · exact World.ownsRow.cells h rfl i _ (by simp [List.getElem?_eq_getElem hi])
    · obtain rfl := Option.some.inj ha
      exact ⟨hb, (Array.getElem?_eq_some_iff.1 hg).1⟩
theorem OwnB.step {w w' : World} {B : Nat} {v : Value} {l : List Nat} (h : OwnB w B v l) (hk : ∀ k, B ≤ k → k < w.heap.size → w'.heap[k]? = w.heap[k]?) : OwnB w' B v l := by
  refine ⟨h.1, h.2.imp id ?_⟩
  rintro ⟨g, cap, cur, h1, h2, h3, h4⟩
  exact ⟨g, cap, cur, h1, h2, (hk g h2 (Array.getElem?_eq_some_iff.1 h3).1).trans h3, h4⟩
def bytesU (s : ByteArray) : List Nat := s.data.toList.map UInt8.toNat
theorem bytesU_len (s : ByteArray) : (bytesU s).length = s.size := by unfold bytesU; rw [List.length_map, Array.length_toList]; rfl
theorem OwnB.mono {w : World} {B B' : Nat} {v : Value} {l : List Nat} (h : OwnB w B v l) (hb : B' ≤ B) : OwnB w B' v l := World.ownsRow.mono h hb
def bsB (bs : List Nat) : ByteArray := ⟨(bs.map UInt8.ofNat).toArray⟩
theorem conv_bytes (W : World) (oa : Option Addr) (n cap : Nat) (bs : List Nat) (hn : bs.length = n) (h : BytesN W oa bs) (hb : ∀ i, i < bs.length → bs.getD i 0 < 256) :
    (convert 81 9 (.slice oa n cap)).run Tryz.prog W = .ok (.string (bsB bs)) W := by
  subst hn
  cases oa with
  | none =>
    have : bs = [] := by
      cases bs with
      | nil => rfl
      | cons x l => obtain ⟨a, ha, _⟩ := h 0 (by simp); cases ha
    subst this
    rw [run_convert_bytes_string W _ _ 5 none _ _ Tryz.underlying81 Tryz.underlying5 Tryz.underlying9]
    rfl
  | some a =>
    have hl : (bs.map UInt8.ofNat).length = bs.length := by simp
    rw [← hl]
    refine run_convert_bytes_back W _ _ 5 a cap (bs.map UInt8.ofNat) Tryz.underlying81 Tryz.underlying5 Tryz.underlying9 (fun j hj => ?_)
    rw [hl] at hj
    obtain ⟨a', ha, hc⟩ := h j hj
    obtain rfl := Option.some.inj ha
    have h2 := hb j hj
    rw [hc]
    rw [List.getD_eq_getElem?_getD, List.getElem?_eq_getElem hj, Option.getD_some] at h2
    simp [List.getD_eq_getElem?_getD, List.getElem?_eq_getElem hj]
    omega
theorem ownB_app {w' : World} {B : Nat} {v : Value} {a b : List Nat} (h : w'.ownsRow B 5 1 v (a.length + b.length) (a.map (fun n : Nat => Value.int .u8 (n : Int)) ++ b.map (fun n : Nat => Value.int .u8 (n : Int)))) : OwnB w' B v (a ++ b) := by
  unfold OwnB
  rw [List.length_append, List.map_append]
  exact h
theorem one_bytes (l : List Nat) : ∀ u ∈ (l.map fun n : Nat => Value.int .u8 (n : Int)), u.oneCell' = true := by
  intro u hu
  obtain ⟨x, _, rfl⟩ := List.mem_map.1 hu
  rfl
theorem len_bytes (l : List Nat) : (l.map fun n : Nat => Value.int .u8 (n : Int)).length = l.length * 1 := by rw [List.length_map, Nat.mul_one]
structure Fld where
  name : ByteArray
  value : ByteArray
  never : Bool
instance : Inhabited Fld := ⟨⟨ByteArray.empty, ByteArray.empty, false⟩⟩
def Fld.val (f : Fld) : Value := .agg #[.string f.name, .string f.value, .bool f.never]
/-- Fields in memory. -/
def FieldsN (W : World) (oa : Option Addr) (L : List Fld) : Prop := ∀ i f, L[i]? = some f → ∃ b o, oa = some ⟨b, o, none⟩ ∧
  W.cell? ⟨b, o + i * 3, none⟩ = some (.string f.name) ∧ W.cell? ⟨b, o + i * 3 + 1, none⟩ = some (.string f.value) ∧ W.cell? ⟨b, o + i * 3 + 2, none⟩ = some (.bool f.never)
theorem FieldsN.below {W W' : World} {oa : Option Addr} {L : List Fld} (h : FieldsN W oa L) (hn : Below W.heap.size W W') : FieldsN W' oa L := by
  intro i f hf
  obtain ⟨b, o, ha, h1, h2, h3⟩ := h i f hf
  have e : W'.heap[b]? = W.heap[b]? := hn.block b (World.block_lt_of_cell? _ _ h1)
  exact ⟨b, o, ha, (cell_eq e).trans h1, (cell_eq e).trans h2, (cell_eq e).trans h3⟩
def lightF (f : Fld) : Bool := decide (f.name.size ≤ 200) && decide (f.value.size ≤ 200)
def light (L : List Fld) : Bool := decide (L.length ≤ 30) && L.all lightF
def Fld.cells (f : Fld) : List Value := [.string f.name, .string f.value, .bool f.never]
def fcells (L : List Fld) : List Value := L.flatMap Fld.cells
theorem fcells_cons (f : Fld) (L : List Fld) : fcells (f :: L) = f.cells ++ fcells L := by simp [fcells]
theorem fcells_append (a b : List Fld) : fcells (a ++ b) = fcells a ++ fcells b := by simp [fcells]
theorem fcells_len (L : List Fld) : (fcells L).length = L.length * 3 := by
  induction L with
  | nil => rfl
  | cons f l ih => rw [fcells_cons, List.length_append, ih, List.length_cons]; simp [Fld.cells]; omega
theorem fcells_one (L : List Fld) : ∀ u ∈ fcells L, u.oneCell' = true := by
  intro u hu
  obtain ⟨f, _, hf⟩ := List.mem_flatMap.1 hu
  simp [Fld.cells] at hf
  rcases hf with rfl | rfl | rfl <;> rfl
theorem fcells_get (L : List Fld) : ∀ (i : Nat) (f : Fld), L[i]? = some f → (fcells L)[i * 3]? = some (.string f.name) ∧ (fcells L)[i * 3 + 1]? = some (.string f.value) ∧ (fcells L)[i * 3 + 2]? = some (.bool f.never) := by
  induction L with
  | nil => intro i f h; simp at h
  | cons g l ih =>
    intro i f h
    cases i with
    | zero => simp at h; subst h; simp [fcells, Fld.cells]
    | succ i =>
      have := ih i f (by simpa using h)
      rw [fcells_cons, show (i + 1) * 3 = i * 3 + 1 + 1 + 1 from by omega]
      simpa [Fld.cells] using this
theorem FieldsN.ofCells {W : World} {L : List Fld} {b o : Nat} (h : ∀ (j : Nat) (u : Value), (fcells L)[j]? = some u → W.cell? ⟨b, o + j, none⟩ = some u) : FieldsN W (some ⟨b, o, none⟩) L := by
  intro i f hf
  obtain ⟨h1, h2, h3⟩ := fcells_get L i f hf
  exact ⟨b, o, rfl, h _ _ h1, h _ _ h2, h _ _ h3⟩
theorem FieldsN.nil (W : World) (oa : Option Addr) : FieldsN W oa [] := fun i f h => by simp at h
theorem FieldsN.none_nil {W : World} {L : List Fld} (h : FieldsN W none L) : L = [] := by
  cases L with
  | nil => rfl
  | cons f l => obtain ⟨b, o, e, _⟩ := h 0 f rfl; cases e
/-- A value that has a row of fields of its own. -/
def OwnF (w : World) (B : Nat) (v : Value) (L : List Fld) : Prop := w.ownsRow B 342 3 v L.length (fcells L)
theorem add_zero (g j : Nat) : ((⟨g, 0, none⟩ : Addr).add j) = ⟨g, j, none⟩ := by unfold Addr.add; split <;> simp_all
theorem OwnF.form {w : World} {B : Nat} {v : Value} {L : List Fld} (h : OwnF w B v L) : ∃ oa cap, v = .slice oa L.length cap ∧ FieldsN w oa L ∧ L.length ≤ cap ∧ cap ≤ maxLen ∧ (∀ a, oa = some a → B ≤ a.block ∧ a.block < w.heap.size) := by
  rcases h.2 with ⟨rfl, h0⟩ | ⟨g, cap, cur, rfl, hb, hg, h1, h2, _⟩
  · have : L = [] := List.length_eq_zero_iff.1 h0
    subst this
    exact ⟨none, 0, rfl, FieldsN.nil _ _, Nat.le_refl _, Nat.zero_le _, fun a e => by cases e⟩
  · refine ⟨_, cap, rfl, FieldsN.ofCells fun j u hu => ?_, h1, h2, fun a e => by cases e; exact ⟨hb, (h.lt g rfl).2⟩⟩
    have := h.cells (g := g) rfl j u hu
    rw [add_zero] at this
    simpa using this
theorem OwnF.step {w w' : World} {B : Nat} {v : Value} {L : List Fld} (h : OwnF w B v L) (hb : Below w.heap.size w w') : OwnF w' B v L := owns_below h hb
theorem OwnF.mono {w : World} {B B' : Nat} {v : Value} {L : List Fld} (h : OwnF w B v L) (hb : B' ≤ B) : OwnF w B' v L := World.ownsRow.mono h hb
theorem field_info : (Tryz.prog.info? 342).map (fun i => (i.zero, i.size, i.bytes)) = some (some (.agg #[.string ⟨#[]⟩, .string ⟨#[]⟩, .bool false]), 3, 40) := by kernel_rfl
def eqF (f g : Fld) : Bool := (f.name.toList == g.name.toList) && ((f.value.toList == g.value.toList) && (f.never == g.never))
def sameL : List Fld → List Fld → Bool
  | [], [] => true
  | f :: l, g :: r => eqF f g && sameL l r
  | _, _ => false
theorem sameL_len : ∀ (a b : List Fld), sameL a b = true → a.length = b.length
  | [], [], _ => rfl
  | f :: l, g :: r, h => by
    simp only [sameL, Bool.and_eq_true] at h
    simp [sameL_len l r h.2]
  | [], g :: r, h => by simp [sameL] at h
  | f :: l, [], h => by simp [sameL] at h
theorem sameL_take : ∀ (a b : List Fld) (k : Nat) (ha : k < a.length) (hb : k < b.length), sameL (a.take (k + 1)) (b.take (k + 1)) = (sameL (a.take k) (b.take k) && eqF a[k] b[k])
  | f :: l, g :: r, 0, _, _ => by simp [sameL]
  | f :: l, g :: r, k + 1, ha, hb => by
    have := sameL_take l r k (by simpa using ha) (by simpa using hb)
    simp only [List.take_succ_cons, sameL, List.getElem_cons_succ] at this ⊢
    rw [this, Bool.and_assoc]
theorem sameL_no : ∀ (a b : List Fld) (k : Nat) (ha : k < a.length) (hb : k < b.length), eqF a[k] b[k] = false → sameL a b = false
  | f :: l, g :: r, 0, _, _, h => by simp only [List.getElem_cons_zero] at h; simp [sameL, h]
  | f :: l, g :: r, k + 1, ha, hb, h => by
    have := sameL_no l r k (by simpa using ha) (by simpa using hb) (by simpa using h)
    simp [sameL, this]
end Go.Proofs.YtlpapdknggjfkaaGreatDoor

