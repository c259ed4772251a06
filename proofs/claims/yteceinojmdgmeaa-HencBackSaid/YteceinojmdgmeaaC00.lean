/- Pure · HuffP · HuffC: joined by a program, for a claim has at most 60 files. -/
import Derived.Test.YteceinojmdgmeaaProg
import Derived.WalkKit
import Derived.Lib.Hide
import Derived.BigRegion
import Derived.Great.Walk
/- Plain functions and laws on lists of bytes: what a number's digits, and the text ahead of a byte, come to. No program in sight. -/
namespace Go.Proofs.Yteceinojmdgmeaa

/-- Is a byte a digit? -/
def digB (c : UInt8) : Bool := decide (48 ≤ c.toNat ∧ c.toNat ≤ 57)
/-- The number that digits tell. -/
def numVal (l : List UInt8) : Nat := l.foldl (fun n c => n * 10 + (c.toNat - 48)) 0
/-- Is a text a right number: one to nine digits, with no nought ahead of others? -/
def numOk (l : List UInt8) : Bool := !l.isEmpty && decide (l.length ≤ 9) && !(decide (1 < l.length) && l.head? == some 48) && l.all digB
/-- The number, or nought where the text is none. -/
def numI (l : List UInt8) : Int := if numOk l then (numVal l : Int) else 0

/-- Induction on a list from its end. -/
theorem snocInd {α : Type} {P : List α → Prop} (h0 : P []) (h1 : ∀ l a, P l → P (l ++ [a])) (l : List α) : P l := by
  have h : ∀ r : List α, P r.reverse := by
    intro r
    induction r with
    | nil => exact h0
    | cons a r ih => rw [List.reverse_cons]; exact h1 _ _ ih
  simpa using h l.reverse

theorem numVal_snoc (l : List UInt8) (c : UInt8) : numVal (l ++ [c]) = numVal l * 10 + (c.toNat - 48) := by simp [numVal]
theorem numVal_lt (l : List UInt8) : l.all digB = true → numVal l < 10 ^ l.length := by
  refine snocInd (P := fun l => l.all digB = true → numVal l < 10 ^ l.length) (by simp [numVal]) ?_ l
  intro l c ih h
  · 
    simp only [List.all_append, Bool.and_eq_true, List.all_cons, List.all_nil, Bool.and_true] at h
    have h1 := ih h.1
    have h2 : 48 ≤ c.toNat ∧ c.toNat ≤ 57 := by simpa [digB] using h.2
    rw [numVal_snoc, List.length_append, List.length_singleton, Nat.pow_succ]
    omega
theorem pow_le9 (n : Nat) (h : n ≤ 9) : 10 ^ n ≤ 1000000000 := by
  have : 10 ^ n ≤ 10 ^ 9 := Nat.pow_le_pow_right (by omega) h
  simpa using this
theorem numVal_lt9 (l : List UInt8) (h : l.all digB = true) (h9 : l.length ≤ 9) : numVal l < 1000000000 :=
  Nat.lt_of_lt_of_le (numVal_lt l h) (pow_le9 _ h9)
theorem numI_range (l : List UInt8) : 0 ≤ numI l ∧ numI l < 1000000000 := by
  unfold numI
  split
  · rename_i h
    simp only [numOk, Bool.and_eq_true, decide_eq_true_eq] at h
    have := numVal_lt9 l h.2 h.1.1.2
    omega
  · omega

theorem take_snoc (l : List UInt8) (k : Nat) (h : k < l.length) : l.take (k + 1) = l.take k ++ [l[k]] :=
  List.take_succ_eq_append_getElem h

end Go.Proofs.Yteceinojmdgmeaa


/- The lengths and the codes of all bytes, and the states of the loops that make the codes. No program in sight. -/
namespace Go.Proofs.Yteceinojmdgmeaa
set_option linter.unusedVariables false
set_option linter.unusedSimpArgs false

/-- The lengths of all bytes' codes. -/
def lenL : List Nat := [13, 23, 28, 28, 28, 28, 28, 28, 28, 24, 30, 28, 28, 30, 28, 28, 28, 28, 28, 28, 28, 28, 30, 28, 28, 28, 28, 28, 28, 28, 28, 28, 6, 10, 10, 12, 13, 6, 8, 11, 10, 10, 8, 11, 8, 6, 6, 6, 5, 5, 5, 6, 6, 6, 6, 6, 6, 6, 7, 8, 15, 6, 12, 10, 13, 6, 7, 7, 7, 7, 7, 7, 7, 7, 7, 7, 7, 7, 7, 7, 7, 7, 7, 7, 7, 7, 7, 7, 8, 7, 8, 13, 19, 13, 14, 6, 15, 5, 6, 5, 6, 5, 6, 6, 6, 5, 7, 7, 6, 6, 6, 5, 6, 7, 6, 5, 5, 6, 7, 7, 7, 7, 7, 15, 11, 14, 13, 28, 20, 22, 20, 20, 22, 22, 22, 23, 22, 23, 23, 23, 23, 23, 24, 23, 24, 24, 22, 23, 24, 23, 23, 23, 23, 21, 22, 23, 22, 23, 23, 24, 22, 21, 20, 22, 22, 23, 23, 21, 23, 22, 22, 24, 21, 22, 23, 23, 21, 21, 22, 21, 23, 22, 23, 23, 20, 22, 22, 22, 23, 22, 22, 23, 26, 26, 20, 19, 22, 23, 22, 25, 26, 26, 26, 27, 27, 26, 24, 25, 19, 21, 26, 27, 27, 26, 27, 24, 21, 21, 26, 26, 28, 27, 27, 27, 20, 24, 20, 21, 22, 21, 21, 23, 22, 22, 25, 25, 24, 24, 26, 23, 26, 27, 26, 26, 27, 27, 27, 27, 27, 28, 27, 27, 27, 27, 27, 26]
/-- How many codes there are of each length. -/
def manyL : List Nat := [0, 0, 0, 0, 0, 10, 26, 32, 6, 0, 5, 3, 2, 6, 2, 3, 0, 0, 0, 3, 8, 13, 26, 29, 12, 4, 15, 19, 29, 0, 3]
/-- The first code of each length. -/
def nextL : List Nat := [0, 0, 0, 0, 0, 0, 20, 92, 248, 508, 1016, 2042, 4090, 8184, 16380, 32764, 65534, 131068, 262136, 524272, 1048550, 2097116, 4194258, 8388568, 16777194, 33554412, 67108832, 134217694, 268435426, 536870910, 1073741820]
/-- The codes of all bytes. -/
def codeL : List Nat := [8184, 8388568, 268435426, 268435427, 268435428, 268435429, 268435430, 268435431, 268435432, 16777194, 1073741820, 268435433, 268435434, 1073741821, 268435435, 268435436, 268435437, 268435438, 268435439, 268435440, 268435441, 268435442, 1073741822, 268435443, 268435444, 268435445, 268435446, 268435447, 268435448, 268435449, 268435450, 268435451, 20, 1016, 1017, 4090, 8185, 21, 248, 2042, 1018, 1019, 249, 2043, 250, 22, 23, 24, 0, 1, 2, 25, 26, 27, 28, 29, 30, 31, 92, 251, 32764, 32, 4091, 1020, 8186, 33, 93, 94, 95, 96, 97, 98, 99, 100, 101, 102, 103, 104, 105, 106, 107, 108, 109, 110, 111, 112, 113, 114, 252, 115, 253, 8187, 524272, 8188, 16380, 34, 32765, 3, 35, 4, 36, 5, 37, 38, 39, 6, 116, 117, 40, 41, 42, 7, 43, 118, 44, 8, 9, 45, 119, 120, 121, 122, 123, 32766, 2044, 16381, 8189, 268435452, 1048550, 4194258, 1048551, 1048552, 4194259, 4194260, 4194261, 8388569, 4194262, 8388570, 8388571, 8388572, 8388573, 8388574, 16777195, 8388575, 16777196, 16777197, 4194263, 8388576, 16777198, 8388577, 8388578, 8388579, 8388580, 2097116, 4194264, 8388581, 4194265, 8388582, 8388583, 16777199, 4194266, 2097117, 1048553, 4194267, 4194268, 8388584, 8388585, 2097118, 8388586, 4194269, 4194270, 16777200, 2097119, 4194271, 8388587, 8388588, 2097120, 2097121, 4194272, 2097122, 8388589, 4194273, 8388590, 8388591, 1048554, 4194274, 4194275, 4194276, 8388592, 4194277, 4194278, 8388593, 67108832, 67108833, 1048555, 524273, 4194279, 8388594, 4194280, 33554412, 67108834, 67108835, 67108836, 134217694, 134217695, 67108837, 16777201, 33554413, 524274, 2097123, 67108838, 134217696, 134217697, 67108839, 134217698, 16777202, 2097124, 2097125, 67108840, 67108841, 268435453, 134217699, 134217700, 134217701, 1048556, 16777203, 1048557, 2097126, 4194281, 2097127, 2097128, 8388595, 4194282, 4194283, 33554414, 33554415, 16777204, 16777205, 67108842, 8388596, 67108843, 134217702, 67108844, 67108845, 134217703, 134217704, 134217705, 134217706, 134217707, 268435454, 134217708, 134217709, 134217710, 134217711, 134217712, 67108846]
def lenOf (c : Nat) : Nat := lenL.getD c 0
def codeOf (c : Nat) : Nat := codeL.getD c 0

def z31 : List Nat := List.replicate 31 0
def z256 : List Nat := List.replicate 256 0
/-- Counting: the counts behind k bytes. -/
def mSt : Nat → List Nat
  | 0 => z31
  | k + 1 => (mSt k).set (lenOf k) ((mSt k).getD (lenOf k) 0 + 1)
/-- The first codes, behind the lengths 1 to k. -/
def nSt : Nat → List Nat
  | 0 => z31
  | k + 1 => (nSt k).set (k + 1) (((nSt k).getD k 0 + manyL.getD k 0) * 2)
/-- The next codes, and the codes made, behind k bytes. -/
def xSt : Nat → List Nat
  | 0 => nextL
  | k + 1 => (xSt k).set (lenOf k) ((xSt k).getD (lenOf k) 0 + 1)
def oSt : Nat → List Nat
  | 0 => z256
  | k + 1 => (oSt k).set k ((xSt k).getD (lenOf k) 0)

theorem lenL_len : lenL.length = 256 := by decide +kernel
theorem codeL_len : codeL.length = 256 := by decide +kernel
theorem len_all : lenL.all (fun n => decide (5 ≤ n) && decide (n ≤ 30)) = true := by decide +kernel
theorem len_range (c : Nat) (h : c < 256) : 5 ≤ lenOf c ∧ lenOf c ≤ 30 := by
  have h1 := List.all_eq_true.1 len_all (lenOf c) (by
    unfold lenOf
    rw [List.getD_eq_getElem?_getD, List.getElem?_eq_getElem (by rw [lenL_len]; exact h)]
    exact List.getElem_mem _)
  simpa using h1
theorem code_all : (List.zip codeL lenL).all (fun x => decide (x.1 < 2 ^ x.2)) = true := by decide +kernel
theorem mSt_len (k : Nat) : (mSt k).length = 31 := by
  induction k with
  | zero => decide
  | succ k ih => simp [mSt, ih]
theorem nSt_len (k : Nat) : (nSt k).length = 31 := by
  induction k with
  | zero => decide
  | succ k ih => simp [nSt, ih]
theorem xSt_len (k : Nat) : (xSt k).length = 31 := by
  induction k with
  | zero => decide
  | succ k ih => simp [xSt, ih]
theorem oSt_len (k : Nat) : (oSt k).length = 256 := by
  induction k with
  | zero => decide +kernel
  | succ k ih => simp [oSt, ih]
theorem getD_set_le (l : List Nat) (i j v b : Nat) (h : ∀ i, l.getD i 0 ≤ b) (hv : v ≤ b) : (l.set i v).getD j 0 ≤ b := by
  rw [List.getD_eq_getElem?_getD, List.getElem?_set]
  by_cases hij : i = j
  · subst hij
    by_cases hl : i < l.length
    · simp [hl, hv]
    · simp [hl]
  · simp only [hij, if_false]
    rw [← List.getD_eq_getElem?_getD]
    exact h j
theorem mSt_le (k : Nat) : ∀ j, (mSt k).getD j 0 ≤ k := by
  induction k with
  | zero =>
    intro j
    show z31.getD j 0 ≤ 0
    unfold z31
    rw [List.getD_eq_getElem?_getD, List.getElem?_replicate]
    split <;> simp
  | succ k ih => intro j; exact getD_set_le _ _ _ _ _ (fun i => Nat.le_succ_of_le (ih i)) (Nat.succ_le_succ (ih _))
theorem mSt_end : mSt 256 = manyL := by decide +kernel
theorem nSt_end : nSt 30 = nextL := by decide +kernel
theorem nSt_small : (List.range 30).all (fun k => decide (((nSt k).getD k 0 + manyL.getD k 0) * 2 < 4294967296)) = true := by decide +kernel
theorem nSt_lt (k : Nat) (h : k < 30) : ((nSt k).getD k 0 + manyL.getD k 0) * 2 < 4294967296 := by
  have := List.all_eq_true.1 nSt_small k (by simpa using h)
  simpa using this
theorem xSt_le (k : Nat) : ∀ j, (xSt k).getD j 0 ≤ 1073741824 + k := by
  induction k with
  | zero =>
    intro j
    have h : nextL.all (fun n => decide (n ≤ 1073741824)) = true := by decide +kernel
    show nextL.getD j 0 ≤ _
    rw [List.getD_eq_getElem?_getD]
    cases hj : nextL[j]? with
    | none => simp
    | some v =>
      have := List.all_eq_true.1 h v (List.mem_of_getElem? hj)
      simpa using this
  | succ k ih => intro j; exact getD_set_le _ _ _ _ _ (fun i => by have := ih i; omega) (by have := ih (lenOf k); omega)
theorem oSt_end : oSt 256 = codeL := by decide +kernel
end Go.Proofs.Yteceinojmdgmeaa


/- What huff.lengths and huff.codes return: the lengths, and the codes, of all bytes. -/
namespace Go.Proofs.Yteceinojmdgmeaa
open Go.RowKit
set_option linter.unusedVariables false
set_option linter.unusedSimpArgs false

/-- Numbers as a row of cells. -/
def rowK (k : IntKind) (l : List Nat) : Array Value := (l.map fun n : Nat => Value.int k (n : Int)).toArray
theorem rowK_size (k : IntKind) (l : List Nat) : (rowK k l).size = l.length := by simp [rowK]
theorem rowK_at (k : IntKind) (l : List Nat) (i : Nat) (h : i < l.length) : (rowK k l)[i]? = some (.int k (l.getD i 0 : Nat)) := by
  simp [rowK, h]
theorem rowK_set (k : IntKind) (l : List Nat) (i v : Nat) : (rowK k l).setIfInBounds i (.int k (v : Nat)) = rowK k (l.set i v) := by
  apply Array.ext'
  simp [rowK]
theorem below_setRow {B : Nat} {a w : World} (h : Below B a w) {g : Nat} (hg : B ≤ g) (cs : Array Value) : Below B a (w.setRow g cs) :=
  h.trans ⟨rfl, rfl, rfl, by simp [World.setRow], fun k hk => by
    show (w.heap.modify g _)[k]? = _
    rw [Array.getElem?_modify, if_neg (by omega)]⟩
theorem zeros_row (n : Nat) (t : TypeId) (k : IntKind) : (Array.replicate n (Value.int k 0)) = rowK k (List.replicate n 0) := by
  simp [rowK]

def lenI : List Int := lenL.map fun n : Nat => (n : Int)
theorem lenI_row : (lenI.map (Value.int .u8)).toArray = rowK .u8 lenL := by simp [lenI, rowK]

set_option maxRecDepth 100000 in
theorem lengths_any (w : World) : Calls Try.prog 86 #[] w fun e w' => e = .returned (.agg (rowK .u8 lenL)) ∧ Below w.heap.size w w' := by
  go_enter Try.func86, Try.ntmps86

  go_wp2_with (first
    | (refine Great.wpList_allocTo rfl (some 0) rfl (.pointer (some ⟨w.heap.size, 0, none⟩)) (.cells (rowK .u8 (List.replicate 256 0)) 137) (by kernel_rfl) ?_)
    | (refine wpList_buildFlatArrTo rfl 137 5 256 _ rfl .u8 lenI (some 1) rfl Try.underlying137 (by kernel_rfl) (by kernel_rfl) (by kernel_rfl) ?_; rw [lenI_row])
    | (refine wpList_store_rowTo rfl _ _ _ rfl rfl w.heap.size (rowK .u8 lenL) rfl rfl _ _ (heap_alloc_new w _) (by kernel_rfl) (by kernel_rfl) (by kernel_rfl) ?_))


  exact bodyPost_ret (v := .agg (rowK .u8 lenL)) (results_cell_row rfl _ _ w.heap.size _ _ (0, 0) _ rfl (setRow_heap _ _ _ _ _ _ (heap_alloc_new w _)) Try.underlying137 rfl (by kernel_rfl)) rfl ⟨rfl, below_setRow ((Below.refl _ _).alloc (Nat.le_refl _) _) (Nat.le_refl _) _⟩
/-- An element of an array by value, whose elements are one cell wide. -/
theorem index_arr {P : Program} {t e : TypeId} {n : Nat} {cs : Array Value} {v : Value} {k : IntKind} (i : Nat) (h : P.underlying t = some (.array n e)) (ha : ∀ w, (isAgg e).run P w = .ok false w) (hs : ∀ w, (sizeOf e).run P w = .ok 1 w) (hi : i < n) (hv : cs[i]? = some v) (w : World) :
    (Instr.index t (.agg cs) (.int k (i : Int))).run P w = .ok v w := by
  have hb : 0 ≤ (i : Int) ∧ (i : Int) < (n : Int) := by omega
  simp [Instr.index, run_underlying h, asIntOf, hb, part, ha, hs, hv, go_sem]
  intro hn
  omega
theorem len_index (k : Nat) (hk : k < 256) (w : World) : (Instr.index 137 (.agg (rowK .u8 lenL)) (.int .i64 (k : Int))).run Try.prog w = .ok (.int .u8 (lenOf k : Nat)) w :=
  index_arr k Try.underlying137 Try.isAgg5 Try.sizeOf5 hk (rowK_at .u8 lenL k (by rw [lenL_len]; exact hk)) w
end Go.Proofs.Yteceinojmdgmeaa

