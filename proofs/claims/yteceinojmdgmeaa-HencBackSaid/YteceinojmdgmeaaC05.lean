/- HuffT · HuffU: joined by a program, for a claim has at most 60 files. -/
import Derived.Test.YteceinojmdgmeaaC03
import Derived.Test.YteceinojmdgmeaaC04
/- The tree that the codes make, as a row of numbers, two for each place. No program in sight. -/
namespace Go.Proofs.Yteceinojmdgmeaa
set_option linter.unusedVariables false
set_option linter.unusedSimpArgs false

/-- One step down the tree, which grows where there is no place. -/
def stepL (s : List Int × Nat) (b : Nat) : List Int × Nat :=
  if s.1.getD (2 * s.2 + b) 0 = 0 then ((s.1 ++ [0, 0]).set (2 * s.2 + b) (s.1.length / 2 : Nat), s.1.length / 2) else (s.1, (s.1.getD (2 * s.2 + b) 0).toNat)
/-- What a step wants. -/
def okS (s : List Int × Nat) (b : Nat) : Bool := decide (2 * s.2 + 1 < s.1.length) && decide (s.1.length ≤ 1000) && decide (s.1.length % 2 = 0) && decide (0 ≤ s.1.getD (2 * s.2 + b) 0)
def runOk (s : List Int × Nat) : List Nat → Bool
  | [] => true
  | b :: l => okS s b && runOk (stepL s b) l
theorem runOk_at : ∀ (l : List Nat) (s : List Int × Nat), runOk s l = true → ∀ k, (h : k < l.length) → okS ((l.take k).foldl stepL s) l[k] = true
  | [], _, _, k, h => absurd h (Nat.not_lt_zero k)
  | b :: l, s, hr, 0, h => by simp only [runOk, Bool.and_eq_true] at hr; exact hr.1
  | b :: l, s, hr, k + 1, h => by
    simp only [runOk, Bool.and_eq_true] at hr
    exact runOk_at l (stepL s b) hr.2 k (by simpa using h)
def codeBits (c : Nat) : List Nat := bitsN (lenOf c) (codeOf c)
/-- A byte's code put into the tree. -/
def plantL (t : List Int) (c : Nat) : List Int :=
  let s := ((codeBits c).take (lenOf c - 1)).foldl stepL (t, 0)
  s.1.set (2 * s.2 + codeOf c % 2) (-1 - c)
/-- The tree behind k bytes. -/
def tSt : Nat → List Int
  | 0 => [0, 0]
  | k + 1 => plantL (tSt k) k
def tOk : Nat → Nat → List Int → List Int → Bool
  | 0, _, t, goal => decide (t = goal)
  | n + 1, k, t, goal => runOk (t, 0) (codeBits k) && tOk n (k + 1) (plantL t k) goal
theorem tOk_run : ∀ (n k : Nat) (goal : List Int), tOk n k (tSt k) goal = true → ∀ j, k ≤ j → j < k + n → runOk (tSt j, 0) (codeBits j) = true
  | 0, k, _, _, j, h1, h2 => by omega
  | n + 1, k, goal, h, j, h1, h2 => by
    simp only [tOk, Bool.and_eq_true] at h
    by_cases hj : j = k
    · subst hj; exact h.1
    · exact tOk_run n (k + 1) goal h.2 j (by omega) (by omega)
theorem tOk_end : ∀ (n k : Nat) (goal : List Int), tOk n k (tSt k) goal = true → tSt (k + n) = goal
  | 0, k, goal, h => by simpa [tOk] using h
  | n + 1, k, goal, h => by
    simp only [tOk, Bool.and_eq_true] at h
    have := tOk_end n (k + 1) goal h.2
    rwa [show k + 1 + n = k + (n + 1) from by omega] at this
/-- The whole tree. -/
def treeL : List Int := [66, 1, 93, 2, 104, 3, 119, 4, 144, 5, 75, 6, 123, 7, 71, 8, 77, 9, 73, 10, 11, 13, 12, 102, -1, -37, 127, 14, 128, 15, 98, 16, -124, 17, 124, 18, 150, 19, 20, 25, 199, 21, 216, 22, 23, 162, 24, 161, -2, -136, 167, 26, 41, 27, 191, 28, 211, 29, 229, 30, 31, 45, 32, 38, 33, 35, -255, 34, -3, -4, 36, 37, -5, -6, -7, -8, 39, 52, 40, 51, -9, -12, 208, 42, 43, 165, -240, 44, -10, -143, 55, 46, 63, 47, 147, 48, -250, 49, 50, 59, -11, -14, -13, -15, 53, 54, -16, -17, -18, -19, 56, 60, 57, 58, -20, -21, -22, -24, -23, 0, 61, 62, -25, -26, -27, -28, 64, 65, -29, -30, -31, -32, 85, 67, 68, 82, 143, 69, 70, 81, -33, -38, 72, 79, -34, -35, -125, 74, -36, -63, 76, 80, -39, -43, -64, 78, -40, -44, -41, -42, -45, -60, -46, -47, 83, 90, 84, 89, -48, -52, 86, 130, 87, 88, -49, -50, -51, -98, -53, -54, 91, 92, -55, -56, -57, -58, 99, 94, 138, 95, 142, 96, 97, 103, -59, -67, -61, -97, 100, 132, 101, 129, -62, -66, -65, -92, -68, -69, 105, 112, 106, 109, 107, 108, -70, -71, -72, -73, 110, 111, -74, -75, -76, -77, 113, 116, 114, 115, -78, -79, -80, -81, 117, 118, -82, -83, -84, -85, 120, 136, 121, 122, -86, -87, -88, -90, -89, -91, 125, 155, 126, 148, -93, -196, -94, -127, -95, -126, -96, -99, 131, 135, -100, -102, 133, 134, -101, -103, -104, -105, -106, -112, 137, 141, -107, -108, 139, 140, -109, -110, -111, -113, -114, -119, -115, -118, -116, -117, 145, 146, -120, -121, -122, -123, -128, -221, -209, 149, -129, -131, 196, 151, 152, 178, 153, 158, -231, 154, -130, -133, 156, 175, 157, 204, -132, -163, 159, 160, -134, -135, -137, -147, -138, -139, 163, 164, -140, -141, -142, -144, 166, 171, -145, -146, 168, 185, 169, 173, 170, 172, -148, -150, -149, -160, -151, -152, 174, 181, -153, -156, 241, 176, 177, 188, -154, -162, 179, 183, 180, 182, -155, -157, -158, -159, -161, -164, 184, 190, -165, -170, 186, 194, 187, 189, -166, -167, -168, -173, -169, -175, -171, -174, 192, 218, 193, 234, -172, -207, 195, 203, -176, -181, 197, 235, 198, 202, -177, -178, 200, 206, 201, 205, -179, -182, -180, -210, -183, -184, -185, -195, -186, -187, 207, 210, -188, -190, 209, 215, -189, -192, -191, -197, 212, 224, 213, 222, 214, 221, -193, -194, -198, -232, 217, 243, -199, -229, 245, 219, 220, 244, -200, -208, -201, -202, 223, 228, -203, -206, 237, 225, 248, 226, -256, 227, -204, -205, -211, -214, 230, 249, 231, 239, 232, 233, -212, -213, -215, -222, -216, -226, 236, 242, -217, -218, 238, 246, -219, -220, 240, 247, -223, -224, -225, -227, -228, -230, -233, -234, -235, -236, -237, -238, -239, -241, -242, -245, -243, -244, 250, 253, 251, 252, -246, -247, -248, -249, 254, 255, -251, -252, -253, -254]
set_option maxRecDepth 100000 in
theorem tree_ok : tOk 256 0 (tSt 0) treeL = true := by decide +kernel
theorem plant_ok (c : Nat) (h : c < 256) : runOk (tSt c, 0) (codeBits c) = true := tOk_run 256 0 treeL tree_ok c (Nat.zero_le _) (by omega)
theorem tSt_end : tSt 256 = treeL := tOk_end 256 0 treeL tree_ok
end Go.Proofs.Yteceinojmdgmeaa


/- What (*huff.Coder).plant does: a byte's code put into the coder's tree. -/
namespace Go.Proofs.Yteceinojmdgmeaa
open Go.RowKit
set_option linter.unusedVariables false
set_option linter.unusedSimpArgs false

/-- Below B nothing has turned but the block p. -/
structure Near (p B : Nat) (w w' : World) : Prop where
  os : w'.os = w.os
  tape : w'.tape = w.tape
  output : w'.output = w.output
  size : w.heap.size ≤ w'.heap.size
  block : ∀ k, k < B → k ≠ p → w'.heap[k]? = w.heap[k]?
theorem Near.refl (p B : Nat) (w : World) : Near p B w w := ⟨rfl, rfl, rfl, Nat.le_refl _, fun _ _ _ => rfl⟩
theorem Near.trans {p B : Nat} {a b c : World} (h : Near p B a b) (k : Near p B b c) : Near p B a c :=
  ⟨k.os.trans h.os, k.tape.trans h.tape, k.output.trans h.output, Nat.le_trans h.size k.size, fun i hi hp => (k.block i hi hp).trans (h.block i hi hp)⟩
theorem Near.mono {p B B' : Nat} {w w' : World} (h : Near p B w w') (hB : B' ≤ B) : Near p B' w w' := ⟨h.os, h.tape, h.output, h.size, fun k hk hp => h.block k (Nat.lt_of_lt_of_le hk hB) hp⟩
theorem Near.drew {p B : Nat} {a w : World} (h : Near p B a w) : Near p B a w.drew := ⟨h.os, h.tape, h.output, h.size, h.block⟩
theorem Near.of {p B : Nat} {w w' : World} (h : Below B w w') : Near p B w w' := ⟨h.os, h.tape, h.output, h.size, fun k hk _ => h.block k hk⟩
theorem Near.below {p B : Nat} {w w' : World} (h : Near p B w w') (hp : p < B) : Below p w w' := ⟨h.os, h.tape, h.output, h.size, fun k hk => h.block k (by omega) (by omega)⟩
theorem Near.alloc {p B : Nat} {a w : World} (h : Near p B a w) (hB : B ≤ w.heap.size) (o : Obj) : Near p B a (w.alloc o) :=
  h.trans (Near.of ((Below.refl B w).alloc hB o))
theorem Near.setCell {p B : Nat} {a w : World} (h : Near p B a w) {q : Addr} (hq : q.block = p ∨ B ≤ q.block) (u : Value) : Near p B a (w.setCell q u) :=
  h.trans ⟨rfl, rfl, rfl, by simp [World.setCell], fun k hk hp => Below.heap_setCell _ _ _ _ (by omega)⟩
theorem Near.grown {p B : Nat} {a w w' : World} {row : Option Nat} (h : Near p B a w) (hg : w.grownBy w' row) (hB : B ≤ w.heap.size) (hr : ∀ k, row = some k → B ≤ k) : Near p B a w' :=
  h.trans (Near.of ((Below.refl B w).grown hg hB hr))
/-- A coder's block: whether its tree is made, its lock, the tree, how often it was made. -/
def CRow (p : Nat) (W : World) (d m : Int) (tv : Value) (bt : Int) : Prop := W.heap[p]? = some (.cells #[.int .u32 d, .int .i32 m, .int .u32 0, tv, .int .i64 bt] 169 (0, 0))
theorem CRow.cell {p : Nat} {W : World} {d m : Int} {tv : Value} {bt : Int} (h : CRow p W d m tv bt) :
    W.cell? ⟨p, 0, none⟩ = some (.int .u32 d) ∧ W.cell? ⟨p, 1, none⟩ = some (.int .i32 m) ∧ W.cell? ⟨p, 2, none⟩ = some (.int .u32 0) ∧ W.cell? ⟨p, 3, none⟩ = some tv ∧ W.cell? ⟨p, 4, none⟩ = some (.int .i64 bt) := by
  refine ⟨?_, ?_, ?_, ?_, ?_⟩ <;> (rw [cell_of_row _ _ _ _ _ _ h]; rfl)
theorem CRow.frozen {p : Nat} {W : World} {d m : Int} {tv : Value} {bt : Int} (h : CRow p W d m tv bt) (i : Nat) : W.frozen? ⟨p, i, none⟩ = false := frozen_row h i
theorem CRow.step {p : Nat} {W W' : World} {d m : Int} {tv : Value} {bt : Int} (h : CRow p W d m tv bt) (e : W'.heap[p]? = W.heap[p]?) : CRow p W' d m tv bt := e.trans h
theorem CRow.lt {p : Nat} {W : World} {d m : Int} {tv : Value} {bt : Int} (h : CRow p W d m tv bt) : p < W.heap.size := by
  by_cases hp : p < W.heap.size
  · exact hp
  · unfold CRow at h; rw [Array.getElem?_eq_none (by omega)] at h; simp at h
theorem CRow.setTree {p : Nat} {W : World} {d m : Int} {tv : Value} {bt : Int} (h : CRow p W d m tv bt) (tv' : Value) : CRow p (W.setCell ⟨p, 3, none⟩ tv') d m tv' bt := heap_setCell_same W p 3 _ _ tv' h
theorem CRow.other {p : Nat} {W : World} {d m : Int} {tv : Value} {bt : Int} (h : CRow p W d m tv bt) (g i : Nat) (hg : p ≠ g) (u : Value) : CRow p (W.setCell ⟨g, i, none⟩ u) d m tv bt := (Below.heap_setCell W ⟨g, i, none⟩ u p hg).trans h
/-- A tree in memory of one's own. -/
def TreeV (W : World) (B : Nat) (tv : Value) (t : List Int) : Prop := W.ownsRow B 172 2 tv (t.length / 2) (t.map (Value.int .i64))
theorem node_info : (Try.prog.info? 172).map (fun i => (i.zero, i.size, i.bytes)) = some (some (.agg #[.int .i64 0, .int .i64 0]), 2, 16) := by kernel_rfl
theorem coder_size : (Try.prog.info? 169).map (fun i => (i.zero, i.size)) = some (some (.agg #[.int .u32 0, .int .i32 0, .int .u32 0, .slice none 0 0, .int .i64 0]), 5) := by kernel_rfl
end Go.Proofs.Yteceinojmdgmeaa

