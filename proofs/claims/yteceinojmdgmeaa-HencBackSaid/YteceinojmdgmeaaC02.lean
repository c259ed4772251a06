/- Law · HuffE · HuffB · HuffS: joined by a program, for a claim has at most 60 files. -/
import Derived.WalkKit
import Derived.Deep.Draws
import Derived.Deep.Quiet
import Derived.Deep.QuietTactic
import Derived.Laws.Rows
import Derived.Test.YteceinojmdgmeaaC01
import Derived.Lib.ConvBytes
import Derived.OpenShut
import Derived.IntWalk
import Derived.Test.YteceinojmdgmeaaC00
/- Cells that a statement's own memory holds, kept over calls that only make new memory: what a region that draws its order is told of them. -/
namespace Go.Proofs.Yteceinojmdgmeaa
open Go.RowKit
set_option linter.unusedVariables false
set_option linter.unusedSimpArgs false

/-- Each listed cell (block, offset, value) holds its value. -/
def At (w : World) : List (Nat × Nat × Value) → Prop
  | [] => True
  | (g, i, v) :: l => w.cell? ⟨g, i, none⟩ = some v ∧ At w l
/-- Each listed block is there. -/
def There (n : Nat) : List (Nat × Nat × Value) → Prop
  | [] => True
  | (g, _, _) :: l => g < n ∧ There n l
/-- The cells hold their values in W, their blocks are there, and below B nothing has turned since w. -/
structure Kept (B : Nat) (w : World) (L : List (Nat × Nat × Value)) (W : World) : Prop where
  cells : At W L
  there : There W.heap.size L
  below : Below B w W
  base : B ≤ W.heap.size
theorem At.step {W w' : World} (hb : Below W.heap.size W w') : ∀ {L : List (Nat × Nat × Value)}, There W.heap.size L → At W L → At w' L
  | [], _, _ => trivial
  | (g, i, v) :: l, ht, ha => ⟨(hb.cell (p := ⟨g, i, none⟩) ht.1).trans ha.1, At.step hb ht.2 ha.2⟩
theorem There.mono {n m : Nat} (h : n ≤ m) : ∀ {L : List (Nat × Nat × Value)}, There n L → There m L
  | [], _ => trivial
  | (g, i, v) :: l, ht => ⟨Nat.lt_of_lt_of_le ht.1 h, There.mono h ht.2⟩
theorem Kept.step {B : Nat} {w W w' : World} {L : List (Nat × Nat × Value)} (hb : Below W.heap.size W w') (h : Kept B w L W) : Kept B w L w' :=
  ⟨At.step hb h.there h.cells, There.mono hb.size h.there, h.below.trans (hb.mono h.base), Nat.le_trans h.base hb.size⟩
theorem At.drew {w : World} : ∀ {L : List (Nat × Nat × Value)}, At w L → At w.drew L
  | [], _ => trivial
  | (g, i, v) :: l, ha => ⟨ha.1, At.drew ha.2⟩
theorem Kept.drew {B : Nat} {w W : World} {L : List (Nat × Nat × Value)} (h : Kept B w L W) : Kept B w L W.drew := ⟨h.cells.drew, h.there, h.below.drew, h.base⟩
/-- A cell that is listed first, and the rest of the list. -/
theorem Kept.drewN {B : Nat} {w W : World} {L : List (Nat × Nat × Value)} (h : Kept B w L W) (n : Nat) : Kept B w L (W.drewN n) := by
  induction n with
  | zero => exact h
  | succ n ih => exact ih.drew

/-! ### A region that draws its order, all of whose operations yield one value in every world that keeps the listed cells: one walk, in the order of the text -/
section
variable {P : Program} {C : World → Prop}
/-- An operation that yields one value in every world of the class (kept from the walk's sight). -/
def QOp (P : Program) (o : Oper) (a : Act) (C : World → Prop) (K : Act → Prop) : Prop := o.quiet P a C K
def QAt (P : Program) (o : Oper) (a : Act) (C : World → Prop) (W : World) (v : Value) : Prop := o.quietAt P a C W v
theorem QOp.mk {o : Oper} {a : Act} {K : Act → Prop} (h : ∃ v : Value, (∀ W, C W → QAt P o a C W v) ∧ K (a.put o.dst v)) : QOp P o a C K := h
/-- The rest of the walk, kept from the walk's sight. -/
def QRest (P : Program) (ops : Array Oper) (C : World → Prop) (Q : Act → Prop) (rest : List Oper) (a : Act) : Prop := wpQuiet P ops C Q rest a
theorem qrest_step {ops : Array Oper} {Q : Act → Prop} {a : Act} {o : Oper} {rest : List Oper}
    (h : ∀ K : Act → Prop, (∀ a, QRest P ops C Q rest a → K a) → if Region.wanted o (yielded ops a.tmps) then QOp P o a C K else K (a.put o.dst undef)) : QRest P ops C Q (o :: rest) a :=
  wpQuiet_step h
theorem qrest_nil {ops : Array Oper} {Q : Act → Prop} {a : Act} (h : Q a) : QRest P ops C Q [] a := h
theorem held_region {id : Nat} {Q : Exit → Act → World → Prop} {a : Act} {w : World} {l : List Oper} {B : Nat} {w0 : World} {L : List (Nat × Nat × Value)} (hm : P.follows .mixedOrders = true) (hB : Region.lexB .any l.toArray = true)
    (hC : Kept B w0 L w) (h : QRest P l.toArray (Kept B w0 L) (fun a' => ∀ w', Kept B w0 L w' → Q .normal a' w') l a) : (Code.region id l.toArray true).wp P Q a w :=
  wp_region_quiet (C := Kept B w0 L) hm hB hC.drew (by simpa [QRest] using h)
/-- The same, at whatever class of worlds that a draw does not leave. -/
theorem class_region {id : Nat} {Q : Exit → Act → World → Prop} {a : Act} {w : World} {l : List Oper} (hm : P.follows .mixedOrders = true) (hB : Region.lexB .any l.toArray = true)
    (hC : C w.drew) (h : QRest P l.toArray C (fun a' => ∀ w', C w' → Q .normal a' w') l a) : (Code.region id l.toArray true).wp P Q a w :=
  wp_region_quiet (C := C) hm hB hC (by simpa [QRest] using h)
/-- A load of a whole row. -/
theorem qat_load_row {o : Oper} {a : Act} {W : World} (ty : TypeId) (x : Operand) (ho : o.op = .load ty x) (g : Nat) (hx : a.eval x = .pointer (some ⟨g, 0, none⟩)) (t : TypeId) (cs : Array Value) (fr : Nat × Nat) (d : TypeDesc)
    (hg : W.heap[g]? = some (.cells cs t fr)) (hu : P.underlying ty = some d) (hd : (match d with | .struct _ | .array _ _ => true | _ => false) = true) (hi : (P.info? ty).map (·.size) = some cs.size) : QAt P o a C W (.agg cs) := by
  unfold QAt Oper.quietAt execOp
  simp only [ho, hx, Instr.loadAt, Instr.sureAddr, Sem.run_bind, Sem.run_pure, Result.andThen_ok, run_loadVar_row W g t ty cs fr d hg hu hd hi]
  exact ⟨rfl, rfl⟩
end
end Go.Proofs.Yteceinojmdgmeaa


/- What huff.Code and huff.Size return: a byte's code and its length; how many bytes a text's bits are. -/
namespace Go.Proofs.Yteceinojmdgmeaa
open Go.RowKit
set_option linter.unusedVariables false
set_option linter.unusedSimpArgs false

theorem code_index (c : Nat) (hc : c < 256) (w : World) : (Instr.index 139 (.agg (rowK .u32 codeL)) (.int .u8 (c : Int))).run Try.prog w = .ok (.int .u32 (codeOf c : Nat)) w :=
  index_arr c Try.underlying139 Try.isAgg125 Try.sizeOf125 hc (rowK_at .u32 codeL c (by rw [codeL_len]; exact hc)) w
/-- A block holds the lengths; below B nothing has turned. -/
structure HasLens (B g : Nat) (w W : World) : Prop where
  row : W.heap[g]? = some (.cells (rowK .u8 lenL) 137 (0, 0))
  below : Below B w W
  base : B ≤ W.heap.size
  lt : g < W.heap.size
theorem HasLens.step {B g : Nat} {w W W' : World} (h : HasLens B g w W) (hb : Below W.heap.size W W') : HasLens B g w W' :=
  ⟨(hb.block g h.lt).trans h.row, h.below.trans (hb.mono h.base), Nat.le_trans h.base hb.size, Nat.lt_of_lt_of_le h.lt hb.size⟩
theorem HasLens.drew {B g : Nat} {w W : World} (h : HasLens B g w W) : HasLens B g w W.drew := ⟨h.row, h.below.drew, h.base, h.lt⟩
theorem HasLens.cell {B g : Nat} {w W : World} (h : HasLens B g w W) (c : Nat) (hc : c < 256) : W.cell? ⟨g, c, none⟩ = some (.int .u8 (lenOf c : Nat)) := cell_row h.row c (by rw [lenL_len]; exact hc)

theorem alloc256b (d : Option Tmp) (ty : TypeId) (pos : String) (af : Array Edge) (gd : Option (Nat × Bool)) (ρ : Operand → Value) (W : World) :
    (execOp ρ { dst := d, op := .alloc 137, type := ty, pos := pos, after := af, guard := gd }).run Try.prog W = .ok (.value (.pointer (some ⟨W.heap.size, 0, none⟩))) (W.alloc (.cells (rowK .u8 z256) 137)) := by kernel_rfl

end Go.Proofs.Yteceinojmdgmeaa


/- The bits of a text by the codes, and what they come to as bytes. No program in sight. -/
namespace Go.Proofs.Yteceinojmdgmeaa
set_option linter.unusedVariables false
set_option linter.unusedSimpArgs false

/-- How many bits a text's codes have. -/
def bitsLen : List UInt8 → Nat
  | [] => 0
  | c :: l => lenOf c.toNat + bitsLen l
theorem bitsLen_append (a b : List UInt8) : bitsLen (a ++ b) = bitsLen a + bitsLen b := by
  induction a with
  | nil => simp [bitsLen]
  | cons c a ih => simp only [List.cons_append, bitsLen, ih]; omega
theorem bitsLen_snoc (l : List UInt8) (c : UInt8) : bitsLen (l ++ [c]) = bitsLen l + lenOf c.toNat := by simp [bitsLen_append, bitsLen]
theorem bitsLen_le (l : List UInt8) : bitsLen l ≤ 30 * l.length := by
  induction l with
  | nil => simp [bitsLen]
  | cons c l ih =>
    have := (len_range c.toNat c.toNat_lt).2
    simp only [bitsLen, List.length_cons]
    omega
/-- How many bytes a text's bits are. -/
def sizeL (l : List UInt8) : Nat := (bitsLen l + 7) / 8
end Go.Proofs.Yteceinojmdgmeaa


/- What huff.Size and footmanref02.Size return: how many bytes a text's bits are. -/
namespace Go.Proofs.Yteceinojmdgmeaa
open Go.RowKit
set_option linter.unusedVariables false
set_option linter.unusedSimpArgs false

theorem tl (s : ByteArray) : s.toList = s.data.toList := ByteArray.toList_eq s
theorem sz (s : ByteArray) : s.size = s.data.toList.length := by simp only [Array.length_toList]; rfl
theorem byte_at (s : ByteArray) (k : Nat) (h : k < s.size) : s.data.toList[k]'(by rw [← sz]; exact h) = s[k] := by rfl
theorem take_byte (s : ByteArray) (k : Nat) (h : k < s.size) : s.data.toList.take (k + 1) = s.data.toList.take k ++ [s[k]] := by
  rw [take_snoc _ _ (by rw [← sz]; exact h), byte_at s k h]
theorem take_all (s : ByteArray) : s.data.toList.take s.size = s.data.toList := List.take_of_length_le (by rw [← sz]; exact Nat.le_refl _)
theorem byte_lt (c : UInt8) : c.toNat < 256 := c.toNat_lt
theorem retI {a b : Int} (h : a = b) : Ending.returned (.int .i64 a) = .returned (.int .i64 b) := by rw [h]
theorem bits_step (s : ByteArray) (k : Nat) (h : k < s.size) (hs : s.size ≤ 1000000) : bitsLen (s.data.toList.take (k + 1)) = bitsLen (s.data.toList.take k) + lenOf s[k].toNat ∧ bitsLen (s.data.toList.take k) ≤ 30000000 := by
  refine ⟨by rw [take_byte s k h, bitsLen_snoc], ?_⟩
  have h1 := bitsLen_le (s.data.toList.take k)
  have h2 := List.length_take_le k s.data.toList
  have h3 : (s.data.toList.take k).length ≤ s.data.toList.length := by simp only [List.length_take]; omega
  have h4 := sz s
  omega
theorem bits_end (s : ByteArray) (hs : s.size ≤ 1000000) : bitsLen (s.data.toList.take s.size) = bitsLen s.data.toList ∧ bitsLen s.data.toList ≤ 30000000 := by
  rw [take_all]
  have h1 := bitsLen_le s.data.toList
  have h4 := sz s
  exact ⟨rfl, by omega⟩

/-- The table of lengths as a text. -/
def tabS : ByteArray := ⟨(lenL.map UInt8.ofNat).toArray⟩
theorem tabS_list : tabS.data.toList = lenL.map UInt8.ofNat := by simp [tabS]
theorem tabS_at (c : Nat) (hc : c < 256) : ∃ h : c < tabS.size, tabS[c].toNat = lenOf c := by
  have hs : tabS.size = 256 := by rw [sz, tabS_list, List.length_map, lenL_len]
  refine ⟨by omega, ?_⟩
  rw [← byte_at tabS c (by omega)]
  simp only [tabS_list, List.getElem_map]
  have h1 : lenL[c]'(by rw [lenL_len]; exact hc) = lenOf c := by
    unfold lenOf
    rw [List.getD_eq_getElem?_getD, List.getElem?_eq_getElem (by rw [lenL_len]; exact hc)]
    rfl
  rw [h1]
  have := (len_range c hc).2
  simp; omega
theorem idx_run (c : Nat) (hc : c < 256) (o : Oper) (X : ByteArray) (hX : X = tabS) (ho : o.op = .index 9 (.const (.string X)) (.tmp 3)) (a : Act) (ha : a.eval (.tmp 3) = .int .i64 (c : Int)) (w : World) :
    (execOp a.eval o).run Try.prog w = .ok (.value (.int .u8 (lenOf c : Nat))) w := by
  obtain ⟨h1, h2⟩ := tabS_at c hc
  subst hX
  have hr := run_index_string (P := Try.prog) (w := w) 9 tabS .i64 (c : Int) Try.underlying9
  have hk : a.eval (.const (.string tabS)) = .string tabS := rfl
  unfold execOp
  simp only [ho, ha, hk, Sem.run_bind, hr]
  simp [h1, h2]

theorem sizeL_eq (s : ByteArray) : ((bitsLen s.data.toList : Nat) + 7 : Int) / 8 = (sizeL s.data.toList : Nat) := by unfold sizeL; omega

/-- A block holds a text's bytes; below it, B and the lengths are as HasLens says. -/
structure HasText (h : Nat) (s : ByteArray) (W : World) : Prop where
  cell : ∀ k, (hk : k < s.size) → W.cell? ⟨h, k, none⟩ = some (.int .u8 s[k].toNat)
theorem text_new (W : World) (e : TypeId) (s : ByteArray) : HasText W.heap.size s (Lib.bytesWorld W e s) := ⟨fun k hk => by
  rw [Lib.bytesWorld_cell W e s k hk, List.getD_eq_getElem?_getD, List.getElem?_eq_getElem (by rw [← sz]; exact hk), byte_at s k hk]
  rfl⟩
theorem bytesWorld_below (w : World) (e : TypeId) (s : ByteArray) : Below w.heap.size w (Lib.bytesWorld w e s) :=
  ⟨by unfold Lib.bytesWorld World.freeze; split <;> rfl, by unfold Lib.bytesWorld World.freeze; split <;> rfl, by unfold Lib.bytesWorld World.freeze; split <;> rfl, by rw [Lib.bytesWorld_size]; omega, fun k hk => Lib.bytesWorld_at_old w e s k hk⟩

set_option maxRecDepth 100000 in
set_option maxHeartbeats 1000000 in
theorem size_any (s : ByteArray) (hs : s.size ≤ 1000000) (w : World) : Calls Try.prog 76 #[.string s] w fun e w' => e = .returned (.int .i64 (sizeL s.data.toList : Nat)) ∧ Below w.heap.size w w' := by
  go_enter Try.func76, Try.ntmps76
  go_wp2_with fail
  refine (lengths_any _).mono ?_
  rintro e w1 ⟨rfl, hb1⟩
  have hconv := fun W => Lib.run_convert_string_bytes (P := Try.prog) W 9 23 5 s Try.underlying9 Try.underlying23 Try.underlying5
  have hL : HasLens w.heap.size w1.heap.size w ((w1.alloc (.cells (rowK .u8 z256) 137)).setRow w1.heap.size (rowK .u8 lenL)) :=
    ⟨setRow_heap _ _ _ _ _ _ (heap_alloc_new w1 _), below_setRow (hb1.alloc hb1.size _) hb1.size _, by have := hb1.size; simp; omega, by simp⟩
  clear hb1
  go_wp2_with (first
    | (refine Great.wpList_allocTo rfl _ rfl _ _ (alloc256b _ _ _ _ _ _ _) ?_)
    | (refine wpList_store_row rfl _ _ _ rfl w1.heap.size (rowK .u8 lenL) rfl rfl _ _ (heap_alloc_new w1 _) (by kernel_rfl) (by kernel_rfl) (by kernel_rfl) ?_; generalize (w1.alloc (.cells (rowK .u8 z256) 137)).setRow w1.heap.size (rowK .u8 lenL) = W1 at hL ⊢; generalize w1.heap.size = g at hL ⊢))
  have hL2 : HasLens w.heap.size g w (Lib.bytesWorld W1 5 s) := hL.step (bytesWorld_below W1 _ s)
  have hT := text_new W1 5 s
  generalize Lib.bytesWorld W1 5 s = W2 at hL2 hT ⊢
  generalize W1.heap.size = hb at hT ⊢
  clear hconv hL
  go_loop [4, 11] (fun n i => ∃ k : Nat, k ≤ s.size ∧ i = .int .i64 k ∧ n = .int .i64 (bitsLen (s.data.toList.take k) : Nat)) (fun _ i => s.size - (intOf i).toNat)
  case atStart => exact ⟨0, Nat.zero_le _, rfl, rfl⟩
  case round =>
    obtain ⟨k, hk, rfl, rfl⟩ := hrel
    by_cases hlt : k < s.size
    · obtain ⟨h1, h2⟩ := bits_step s k hlt hs
      have H1 := Lib.hid h1
      clear h1
      have hb := byte_lt s[k]
      have hbi : ((s[k].toNat : Nat) : Int) < 256 := by omega
      obtain ⟨n1, n2⟩ := len_range s[k].toNat hb
      have hc1 := hT.cell k hlt
      have hc2 := hL2.cell s[k].toNat hb
      go_wp2_with fail
      go_round
      case rel => exact ⟨k + 1, by omega, by go_num, by rw [H1.out]; go_num⟩
      case measure => simp [intOf]; omega
    · obtain rfl : k = s.size := by omega
      obtain ⟨h1, h2⟩ := bits_end s hs
      rw [h1]
      have HE := Lib.hid (sizeL_eq s)
      clear h1
      go_wp2_with fail
      go_ret
      exact ⟨retI (by have := HE.out; omega), hL2.below⟩
end Go.Proofs.Yteceinojmdgmeaa

