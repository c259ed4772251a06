/- RepJ · RepO: joined by a program, for a claim has at most 60 files. -/
import Derived.Test.YteceinojmdgmeaaC13
import Derived.Test.YteceinojmdgmeaaC14
/- repr.All, plain; items as a row of cells. -/
namespace Go.Proofs.Yteceinojmdgmeaa
open Go.RowKit
set_option linter.unusedVariables false
set_option linter.unusedSimpArgs false

theorem goParts_ok (bs : List Nat) : ∀ (ps : List Bool) (x : Itm) (a : Nat), a ≤ bs.length → (goParts bs ps x a).2.2 = 0 → a ≤ (goParts bs ps x a).2.1 ∧ (goParts bs ps x a).2.1 ≤ bs.length
  | [], x, a, ha, h => ⟨Nat.le_refl _, ha⟩
  | p :: ps, x, a, ha, h => by
    unfold goParts at h ⊢
    by_cases he : (textG (bs.drop a)).2.2 = 0
    · have hk := textG_ok _ he
      rw [List.length_drop] at hk
      rw [if_neg (by simpa using he)] at h ⊢
      have := goParts_ok bs ps _ _ (by omega) h
      omega
    · rw [if_pos he] at h
      exact absurd h he
theorem itemG_ok (bs : List Nat) (h : (itemG bs).2.2 = 0) : 1 ≤ (itemG bs).2.1 ∧ (itemG bs).2.1 ≤ bs.length := by
  cases bs with
  | nil => simp [itemG] at h
  | cons b l =>
    have hg := getN_ok (b :: l) (formB (kindN b)) (form_k4 (kindN b) (kind_le b)).2
    unfold itemG at h ⊢
    simp only at h ⊢
    by_cases h1 : (getN (b :: l) (formB (kindN b))).2.2 = 0
    · have h2 := hg h1
      rw [if_neg (by simpa using h1)] at h ⊢
      split at h
      · simp at h
      · rename_i h3
        rw [if_neg h3]
        have := goParts_ok (b :: l) _ _ _ h2.2.1 h
        omega
    · rw [if_pos h1] at h
      exact absurd h h1
/-- Items got one behind the other, behind the items L; f is fuel. -/
def allA : Nat → List Itm → List Nat → List Itm × Nat
  | 0, L, _ => (L, 0)
  | _ + 1, L, [] => (L, 0)
  | f + 1, L, b :: l => if (itemG (b :: l)).2.2 ≠ 0 then ([], (itemG (b :: l)).2.2) else allA f (L ++ [(itemG (b :: l)).1]) ((b :: l).drop (itemG (b :: l)).2.1)
theorem allA_nil (f : Nat) (L : List Itm) : allA f L [] = (L, 0) := by cases f <;> rfl
theorem allA_step (f : Nat) (L : List Itm) (bs : List Nat) (h : bs ≠ []) : allA (f + 1) L bs = if (itemG bs).2.2 ≠ 0 then ([], (itemG bs).2.2) else allA f (L ++ [(itemG bs).1]) (bs.drop (itemG bs).2.1) := by
  cases bs with
  | nil => exact absurd rfl h
  | cons b l => rfl
def allG (bs : List Nat) : List Itm × Nat := allA bs.length [] bs

def Itm.cells (x : Itm) : List Value := [.int .u8 (x.kind : Int), .int .i64 x.index, .string x.name, .string x.value]
def Itm.val (x : Itm) : Value := .agg #[.int .u8 (x.kind : Int), .int .i64 x.index, .string x.name, .string x.value]
def icells (L : List Itm) : List Value := L.flatMap Itm.cells
theorem icells_cons (f : Itm) (L : List Itm) : icells (f :: L) = f.cells ++ icells L := by simp [icells]
theorem icells_append (a b : List Itm) : icells (a ++ b) = icells a ++ icells b := by simp [icells]
theorem icells_len (L : List Itm) : (icells L).length = L.length * 4 := by
  induction L with
  | nil => rfl
  | cons f l ih => rw [icells_cons, List.length_append, ih, List.length_cons]; simp [Itm.cells]; omega
theorem icells_get (L : List Itm) : ∀ (i : Nat) (x : Itm), L[i]? = some x → (icells L)[i * 4]? = some (.int .u8 (x.kind : Int)) ∧ (icells L)[i * 4 + 1]? = some (.int .i64 x.index) ∧ (icells L)[i * 4 + 2]? = some (.string x.name) ∧ (icells L)[i * 4 + 3]? = some (.string x.value) := by
  induction L with
  | nil => intro i f h; simp at h
  | cons g l ih =>
    intro i f h
    cases i with
    | zero => simp at h; subst h; simp [icells, Itm.cells]
    | succ i =>
      have := ih i f (by simpa using h)
      rw [icells_cons, show (i + 1) * 4 = i * 4 + 1 + 1 + 1 + 1 from by omega]
      simpa [Itm.cells] using this
/-- Where items stand. -/
def ItemsN (W : World) (oa : Option Addr) (L : List Itm) : Prop := ∀ i x, L[i]? = some x → ∃ b o, oa = some ⟨b, o, none⟩ ∧ W.cell? ⟨b, o + i * 4, none⟩ = some (.int .u8 (x.kind : Int)) ∧ W.cell? ⟨b, o + i * 4 + 1, none⟩ = some (.int .i64 x.index) ∧ W.cell? ⟨b, o + i * 4 + 2, none⟩ = some (.string x.name) ∧ W.cell? ⟨b, o + i * 4 + 3, none⟩ = some (.string x.value)
theorem ItemsN.below {W W' : World} {oa : Option Addr} {L : List Itm} (h : ItemsN W oa L) (hb : Below W.heap.size W W') : ItemsN W' oa L := fun i x hx => by
  obtain ⟨b, o, e, h1, h2, h3, h4⟩ := h i x hx
  have hlt := World.block_lt_of_cell? _ _ h1
  refine ⟨b, o, e, ?_, ?_, ?_, ?_⟩
  · exact (cell_eq (a := ⟨b, _, none⟩) (hb.block b hlt)).trans h1
  · exact (cell_eq (a := ⟨b, _, none⟩) (hb.block b hlt)).trans h2
  · exact (cell_eq (a := ⟨b, _, none⟩) (hb.block b hlt)).trans h3
  · exact (cell_eq (a := ⟨b, _, none⟩) (hb.block b hlt)).trans h4
theorem addr_add0 (g j : Nat) : ((⟨g, 0, none⟩ : Addr).add j) = ⟨g, j, none⟩ := by unfold Addr.add; split <;> simp_all
def OwnI (w : World) (B : Nat) (v : Value) (L : List Itm) : Prop := w.ownsRow B 49 4 v L.length (icells L)
theorem OwnI.step {w w' : World} {B : Nat} {v : Value} {L : List Itm} (h : OwnI w B v L) (hb : Below w.heap.size w w') : OwnI w' B v L := owns_below h hb
theorem OwnI.mono {w : World} {B B' : Nat} {v : Value} {L : List Itm} (h : OwnI w B v L) (hb : B' ≤ B) : OwnI w B' v L := World.ownsRow.mono h hb
theorem OwnI.nil (w : World) (B : Nat) : OwnI w B (.slice none 0 0) [] := World.ownsRow_nil _ _ _ _
theorem OwnI.form {w : World} {B : Nat} {v : Value} {L : List Itm} (h : OwnI w B v L) : ∃ oa cap, v = .slice oa L.length cap ∧ ItemsN w oa L ∧ L.length ≤ cap ∧ cap ≤ maxLen ∧ (∀ a, oa = some a → B ≤ a.block ∧ a.block < w.heap.size) := by
  rcases h.2 with ⟨rfl, h0⟩ | ⟨g, cap, cur, rfl, hb, hg, h1, h2, _⟩
  · have : L = [] := List.length_eq_zero_iff.1 h0
    subst this
    exact ⟨none, 0, rfl, (fun i x hx => by simp at hx), Nat.le_refl _, Nat.zero_le _, fun a e => by cases e⟩
  · refine ⟨_, cap, rfl, fun i x hx => ?_, h1, h2, fun a e => by cases e; exact ⟨hb, (h.lt g rfl).2⟩⟩
    obtain ⟨q1, q2, q3, q4⟩ := icells_get L i x hx
    have hc : ∀ j u, (icells L)[j]? = some u → w.cell? ⟨g, 0 + j, none⟩ = some u := fun j u hu => by
      have := h.cells (g := g) rfl j u hu
      rw [addr_add0] at this
      simpa using this
    exact ⟨g, 0, rfl, hc _ _ q1, hc _ _ q2, hc _ _ q3, hc _ _ q4⟩
theorem OwnI.app {w' : World} {B : Nat} {v : Value} {L : List Itm} {x : Itm} (h : w'.ownsRow B 49 4 v (L.length + 1) (icells L ++ x.cells)) : OwnI w' B v (L ++ [x]) := by
  unfold OwnI
  rw [icells_append, List.length_append]
  exact (by simpa [icells] using h)
theorem item_info : (Try.prog.info? 49).map (fun i => (i.zero, i.size, i.bytes)) = some (some (.agg #[.int .u8 0, .int .i64 0, .string ⟨#[]⟩, .string ⟨#[]⟩]), 4, 48) := by kernel_rfl
end Go.Proofs.Yteceinojmdgmeaa


/- What is put is got (numbers), plain. -/
namespace Go.Proofs.Yteceinojmdgmeaa
open Go.RowKit
set_option linter.unusedVariables false
set_option linter.unusedSimpArgs false

theorem groupsN_le : ∀ (j m : Nat), m < 128 ^ (j + 1) → (groupsN m).length ≤ j + 1 := by
  intro j
  induction j with
  | zero => intro m h; rw [groupsN_lo m (by simpa using h)]; simp
  | succ j ih =>
    intro m h
    by_cases hm : m < 128
    · rw [groupsN_lo m hm]; simp
    · rw [groupsN_hi m hm]
      have := ih (m / 128) (by rw [Nat.div_lt_iff_lt_mul (by omega)]; rw [Nat.pow_succ] at h; exact h)
      simp only [List.length_cons]
      omega
theorem getGo_groups (r : List Nat) : ∀ (m : Nat) (pre : List Nat) (j i n : Nat), pre.length = i + 1 → (groupsN m).length ≤ j → n + m * 128 ^ i ≤ 268435455 → getGo (pre ++ groupsN m ++ r) j i n = (n + m * 128 ^ i, i + 1 + (groupsN m).length, 0) := by
  intro m
  induction m using Nat.strongRecOn with
  | _ m ih =>
    intro pre j i n hp hj hb
    by_cases h : m < 128
    · rw [groupsN_lo m h] at hj ⊢
      obtain ⟨j, rfl⟩ : ∃ j', j = j' + 1 := ⟨j - 1, by simp at hj; omega⟩
      unfold getGo
      have he : (pre ++ [m] ++ r)[i + 1]? = some m := by
        rw [List.append_assoc, List.getElem?_append_right (by omega), hp]; simp
      rw [he]
      simp only
      rw [if_neg (by omega), Nat.mod_eq_of_lt h, if_neg (by omega)]
      simp
    · rw [groupsN_hi m h] at hj ⊢
      obtain ⟨j, rfl⟩ : ∃ j', j = j' + 1 := ⟨j - 1, by simp at hj; omega⟩
      unfold getGo
      have he : (pre ++ (m % 128 + 128) :: groupsN (m / 128) ++ r)[i + 1]? = some (m % 128 + 128) := by
        rw [List.append_assoc, List.getElem?_append_right (by omega), hp]; simp
      rw [he]
      simp only
      rw [if_pos (by omega), show (m % 128 + 128) % 128 = m % 128 from by omega]
      have hm : m % 128 * 128 ^ i + m / 128 * 128 ^ (i + 1) = m * 128 ^ i := by
        rw [Nat.pow_succ, Nat.mul_comm (128 ^ i) 128, ← Nat.mul_assoc, ← Nat.add_mul]
        congr 1
        omega
      have h2 := ih (m / 128) (by omega) (pre ++ [m % 128 + 128]) j (i + 1) (n + m % 128 * 128 ^ i) (by simp [hp]) (by simp at hj; omega) (by omega)
      rw [show pre ++ (m % 128 + 128) :: groupsN (m / 128) ++ r = pre ++ [m % 128 + 128] ++ groupsN (m / 128) ++ r from by simp, h2]
      simp only [List.length_cons]
      rw [Nat.add_assoc, hm]
      congr 2
      omega
theorem rest_mod (f k x : Nat) (hx : x < 2 ^ k) : (restN f k + x) % 2 ^ k = x := by
  unfold restN
  rw [Nat.mul_comm, Nat.mul_add_mod, Nat.mod_eq_of_lt hx]
theorem getN_put (f k n : Nat) (hk : K4 k) (hn : n ≤ 268435455) (r : List Nat) : getN (putN f k n ++ r) k = (n, (putN f k n).length, 0) := by
  have hp : 16 ≤ 2 ^ k := by rcases hk with rfl | rfl | rfl | rfl <;> decide
  unfold putN
  by_cases h : n < 2 ^ k - 1
  · rw [if_pos h]
    unfold getN
    simp only [List.cons_append]
    rw [rest_mod f k n (by omega), if_pos h]
    rfl
  · rw [if_neg h]
    unfold getN
    simp only [List.cons_append]
    rw [rest_mod f k (2 ^ k - 1) (by omega), if_neg (by omega)]
    have := getGo_groups r (n - (2 ^ k - 1)) [restN f k + (2 ^ k - 1)] 5 0 (2 ^ k - 1) rfl (Nat.le_trans (groupsN_le 3 _ (by omega)) (by omega)) (by simp; omega)
    simp only [List.cons_append, List.nil_append] at this
    rw [this]
    simp only [List.length_cons, Nat.pow_zero, Nat.mul_one]
    congr 1
    · omega
    · congr 1; omega
theorem textG_long (f n : Nat) (hn : n ≤ 268435455) (h : 4096 < n) : (textG (putN f 7 n)).2.2 = 5 := by
  have hg := getN_put f 7 n (by unfold K4; decide) hn []
  rw [List.append_nil] at hg
  unfold textG
  rw [hg]
  simp only
  rw [if_neg (by simp), if_pos h]
theorem textG_cut (f n : Nat) (h0 : 1 ≤ n) (h : n ≤ 4096) : (textG (putN f 7 n)).2.2 = 3 := by
  have hg := getN_put f 7 n (by unfold K4; decide) (by omega) []
  rw [List.append_nil] at hg
  unfold textG
  rw [hg]
  simp only
  rw [if_neg (by simp), if_neg (by omega), if_pos (by omega)]
end Go.Proofs.Yteceinojmdgmeaa

