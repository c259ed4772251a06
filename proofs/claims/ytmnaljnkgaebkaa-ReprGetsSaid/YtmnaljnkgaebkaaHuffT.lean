/- The tree that the codes make, as a row of numbers, two for each place. No program in sight. -/
import Derived.Test.YtmnaljnkgaebkaaHuffQ
namespace Go.Proofs.Ytmnaljnkgaebkaa
set_option linter.unusedVariables false
set_option linter.unusedSimpArgs false

/-- One step down the tree, which grows where there is no place. -/
def stepL (s : List Int × Nat) (b : Nat) : List Int × Nat :=
  if s.1.getD (2 * s.2 + b) 0 = 0 then ((s.1 ++ [0, 0]).set (2 * s.2 + b) (s.1.length / 2 : Nat), s.1.length / 2) else (s.1, (s.1.getD (2 * s.2 + b) 0).toNat)
/-- What a step wants. -/
def okS (s : List Int × Nat) (b : Nat) : Bool := decide (2 * s.2 + 1 < s.1.length) && decide (s.1.length ≤ 1000) && decide (s.1.length % 2 = 0) && decide (0 ≤ s.1.getD (2 * s.2 + b) 0)
def runOk (s : List Int × Nat) : List Nat → Bool
  | [] => true
  | b :: l => okS s b && runOk (stepL s b) l
theorem runOk_at : ∀ (l : List Nat) (s : List Int × Nat), runOk s l = true → ∀ k, (h : k < l.length) → okS ((l.take k).foldl stepL s) l[k] = true
  | [], _, _, k, h => absurd h (Nat.not_lt_zero k)
  | b :: l, s, hr, 0, h => by simp only [runOk, Bool.and_eq_true] at hr; exact hr.1
  | b :: l, s, hr, k + 1, h => by
    simp only [runOk, Bool.and_eq_true] at hr
    exact runOk_at l (stepL s b) hr.2 k (by simpa using h)
def codeBits (c : Nat) : List Nat := bitsN (lenOf c) (codeOf c)
/-- A byte's code put into the tree. -/
def plantL (t : List Int) (c : Nat) : List Int :=
  let s := ((codeBits c).take (lenOf c - 1)).foldl stepL (t, 0)
  s.1.set (2 * s.2 + codeOf c % 2) (-1 - c)
/-- The tree behind k bytes. -/
def tSt : Nat → List Int
  | 0 => [0, 0]
  | k + 1 => plantL (tSt k) k
def tOk : Nat → Nat → List Int → List Int → Bool
  | 0, _, t, goal => decide (t = goal)
  | n + 1, k, t, goal => runOk (t, 0) (codeBits k) && tOk n (k + 1) (plantL t k) goal
theorem tOk_run : ∀ (n k : Nat) (goal : List Int), tOk n k (tSt k) goal = true → ∀ j, k ≤ j → j < k + n → runOk (tSt j, 0) (codeBits j) = true
  | 0, k, _, _, j, h1, h2 => by omega
  | n + 1, k, goal, h, j, h1, h2 => by
    simp only [tOk, Bool.and_eq_true] at h
    by_cases hj : j = k
    · subst hj; exact h.1
    · exact tOk_run n (k + 1) goal h.2 j (by omega) (by omega)
theorem tOk_end : ∀ (n k : Nat) (goal : List Int), tOk n k (tSt k) goal = true → tSt (k + n) = goal
  | 0, k, goal, h => by simpa [tOk] using h
  | n + 1, k, goal, h => by
    simp only [tOk, Bool.and_eq_true] at h
    have := tOk_end n (k + 1) goal h.2
    rwa [show k + 1 + n = k + (n + 1) from by omega] at this
/-- The whole tree. -/
def treeL : List Int := [66, 1, 93, 2, 104, 3, 119, 4, 144, 5, 75, 6, 123, 7, 71, 8, 77, 9, 73, 10, 11, 13, 12, 102, -1, -37, 127, 14, 128, 15, 98, 16, -124, 17, 124, 18, 150, 19, 20, 25, 199, 21, 216, 22, 23, 162, 24, 161, -2, -136, 167, 26, 41, 27, 191, 28, 211, 29, 229, 30, 31, 45, 32, 38, 33, 35, -255, 34, -3, -4, 36, 37, -5, -6, -7, -8, 39, 52, 40, 51, -9, -12, 208, 42, 43, 165, -240, 44, -10, -143, 55, 46, 63, 47, 147, 48, -250, 49, 50, 59, -11, -14, -13, -15, 53, 54, -16, -17, -18, -19, 56, 60, 57, 58, -20, -21, -22, -24, -23, 0, 61, 62, -25, -26, -27, -28, 64, 65, -29, -30, -31, -32, 85, 67, 68, 82, 143, 69, 70, 81, -33, -38, 72, 79, -34, -35, -125, 74, -36, -63, 76, 80, -39, -43, -64, 78, -40, -44, -41, -42, -45, -60, -46, -47, 83, 90, 84, 89, -48, -52, 86, 130, 87, 88, -49, -50, -51, -98, -53, -54, 91, 92, -55, -56, -57, -58, 99, 94, 138, 95, 142, 96, 97, 103, -59, -67, -61, -97, 100, 132, 101, 129, -62, -66, -65, -92, -68, -69, 105, 112, 106, 109, 107, 108, -70, -71, -72, -73, 110, 111, -74, -75, -76, -77, 113, 116, 114, 115, -78, -79, -80, -81, 117, 118, -82, -83, -84, -85, 120, 136, 121, 122, -86, -87, -88, -90, -89, -91, 125, 155, 126, 148, -93, -196, -94, -127, -95, -126, -96, -99, 131, 135, -100, -102, 133, 134, -101, -103, -104, -105, -106, -112, 137, 141, -107, -108, 139, 140, -109, -110, -111, -113, -114, -119, -115, -118, -116, -117, 145, 146, -120, -121, -122, -123, -128, -221, -209, 149, -129, -131, 196, 151, 152, 178, 153, 158, -231, 154, -130, -133, 156, 175, 157, 204, -132, -163, 159, 160, -134, -135, -137, -147, -138, -139, 163, 164, -140, -141, -142, -144, 166, 171, -145, -146, 168, 185, 169, 173, 170, 172, -148, -150, -149, -160, -151, -152, 174, 181, -153, -156, 241, 176, 177, 188, -154, -162, 179, 183, 180, 182, -155, -157, -158, -159, -161, -164, 184, 190, -165, -170, 186, 194, 187, 189, -166, -167, -168, -173, -169, -175, -171, -174, 192, 218, 193, 234, -172, -207, 195, 203, -176, -181, 197, 235, 198, 202, -177, -178, 200, 206, 201, 205, -179, -182, -180, -210, -183, -184, -185, -195, -186, -187, 207, 210, -188, -190, 209, 215, -189, -192, -191, -197, 212, 224, 213, 222, 214, 221, -193, -194, -198, -232, 217, 243, -199, -229, 245, 219, 220, 244, -200, -208, -201, -202, 223, 228, -203, -206, 237, 225, 248, 226, -256, 227, -204, -205, -211, -214, 230, 249, 231, 239, 232, 233, -212, -213, -215, -222, -216, -226, 236, 242, -217, -218, 238, 246, -219, -220, 240, 247, -223, -224, -225, -227, -228, -230, -233, -234, -235, -236, -237, -238, -239, -241, -242, -245, -243, -244, 250, 253, 251, 252, -246, -247, -248, -249, 254, 255, -251, -252, -253, -254]
set_option maxRecDepth 100000 in
theorem tree_ok : tOk 256 0 (tSt 0) treeL = true := by decide +kernel
theorem plant_ok (c : Nat) (h : c < 256) : runOk (tSt c, 0) (codeBits c) = true := tOk_run 256 0 treeL tree_ok c (Nat.zero_le _) (by omega)
theorem tSt_end : tSt 256 = treeL := tOk_end 256 0 treeL tree_ok
end Go.Proofs.Ytmnaljnkgaebkaa
