/- RepB · RepD: joined by a program, for a claim has at most 60 files. -/
import Derived.Test.YteceinojmdgmeaaGreatC18
import Derived.Test.YteceinojmdgmeaaGreatC08
import Derived.Lib.AppendStr
/- repr.Text. -/
namespace Go.Proofs.YteceinojmdgmeaaGreat
open Go.RowKit
set_option linter.unusedVariables false
set_option linter.unusedSimpArgs false

def bytesU (s : ByteArray) : List Nat := s.data.toList.map UInt8.toNat
theorem bytesU_len (s : ByteArray) : (bytesU s).length = s.size := by unfold bytesU; rw [List.length_map, Array.length_toList]; rfl
theorem OwnB.mono {w : World} {B B' : Nat} {v : Value} {l : List Nat} (h : OwnB w B v l) (hb : B' ≤ B) : OwnB w B' v l := World.ownsRow.mono h hb
/-- A text's bytes, with its length ahead: by the code where that is shorter. -/
def textN (s : ByteArray) : List Nat :=
  if (putN 0 7 (sizeL s.data.toList)).length + sizeL s.data.toList < (putN 0 7 s.size).length + s.size then putN 128 7 (sizeL s.data.toList) ++ encL s.data.toList else putN 0 7 s.size ++ bytesU s
theorem sizeL_small (s : ByteArray) (h : s.size ≤ 4096) : sizeL s.data.toList ≤ 20000 := by
  have h1 := textBits_len s.data.toList
  have h2 := textBits_le s.data.toList
  have h3 : s.data.toList.length = s.size := by rw [Array.length_toList]; rfl
  unfold sizeL
  omega
theorem sizeL_zero (s : ByteArray) (h : sizeL s.data.toList = 0) : s.size = 0 := by
  have h3 : s.data.toList.length = s.size := by rw [Array.length_toList]; rfl
  have h1 := textBits_len s.data.toList
  unfold sizeL at h
  cases hl : s.data.toList with
  | nil => rw [hl] at h3; simpa using h3.symm
  | cons c l =>
    rw [hl] at h1 h
    have e : textBits (c :: l) = byteBits c ++ textBits l := rfl
    have h2 := (len_range c.toNat c.toNat_lt).1
    rw [e, List.length_append, byteBits_len] at h1
    omega
theorem putN_len (f k n : Nat) (hn : n ≤ 268435455) : 0 < (putN f k n).length ∧ (putN f k n).length ≤ 3000000 := by
  unfold putN
  split
  · simp
  · have := groupsN_len (n - (2 ^ k - 1))
    simp only [List.length_cons]
    omega
theorem strCells_eq (s : ByteArray) : Lib.strCells s = (bytesU s).map (fun n : Nat => Value.int .u8 (n : Int)) := by
  unfold Lib.strCells bytesU
  rw [List.map_map]
  rfl
def TextPost (s : ByteArray) (w : World) (e : Ending) (w' : World) : Prop := ∃ v, e = .returned v ∧ OwnB w' w.heap.size v (textN s) ∧ Below w.heap.size w w'
end Go.Proofs.YteceinojmdgmeaaGreat


/- repr.Put. -/
namespace Go.Proofs.YteceinojmdgmeaaGreat
open Go.RowKit
set_option linter.unusedVariables false
set_option linter.unusedSimpArgs false

/-- An item's bytes. -/
def itemN (x : Itm) : List Nat :=
  putN (formF x.kind) (formB x.kind) x.index.toNat ++ (if litK x.kind then (if x.index = 0 then textN x.name else []) ++ textN x.value else [])
theorem textN_len (s : ByteArray) (h : s.size ≤ 4096) : 0 < (textN s).length ∧ (textN s).length ≤ 4000000 := by
  have hz := sizeL_small s h
  unfold textN
  split
  · have := putN_len 128 7 (sizeL s.data.toList) (by omega)
    rw [List.length_append, encL_len]
    omega
  · have := putN_len 0 7 s.size (by omega)
    rw [List.length_append, bytesU_len]
    omega
theorem chk_ok {x : Itm} (h : chkI x = 0) : x.kind ≤ 4 ∧ 0 ≤ x.index ∧ x.index ≤ 268435455 ∧ x.name.size ≤ 4096 ∧ x.value.size ≤ 4096 := by
  unfold chkI at h
  split at h
  · omega
  split at h
  · omega
  split at h
  · omega
  split at h
  · omega
  rename_i h1 h2 _ h3
  omega
def RPutPost (x : Itm) (w : World) (e : Ending) (w' : World) : Prop :=
  (chkI x ≠ 0 ∧ e = .returned (.tuple #[.slice none 0 0, .int .i64 ((chkI x : Nat) : Int)]) ∧ Below w.heap.size w w') ∨ (chkI x = 0 ∧ ∃ v, e = .returned (.tuple #[v, .int .i64 0]) ∧ OwnB w' w.heap.size v (itemN x) ∧ Below w.heap.size w w')
theorem ownB_app {w' : World} {B : Nat} {v : Value} {a b : List Nat} (h : w'.ownsRow B 5 1 v (a.length + b.length) (a.map (fun n : Nat => Value.int .u8 (n : Int)) ++ b.map (fun n : Nat => Value.int .u8 (n : Int)))) : OwnB w' B v (a ++ b) := by
  unfold OwnB
  rw [List.length_append, List.map_append]
  exact h
theorem IRow.grown {W W' : World} {q k : Nat} {i : Int} {nm vl : ByteArray} {v : Value} (h : IRow W q k i nm vl) (hg : W.grownBy W' v.ownBlock) (ho : ∀ g, v.ownBlock = some g → q < g) : IRow W' q k i nm vl :=
  (hg.block _ h.lt (fun e => absurd (ho q e.symm) (Nat.lt_irrefl _))).trans h
theorem one_bytes (l : List Nat) : ∀ u ∈ (l.map fun n : Nat => Value.int .u8 (n : Int)), u.oneCell' = true := by
  intro u hu
  obtain ⟨x, _, rfl⟩ := List.mem_map.1 hu
  rfl
theorem len_bytes (l : List Nat) : (l.map fun n : Nat => Value.int .u8 (n : Int)).length = l.length * 1 := by rw [List.length_map, Nat.mul_one]
end Go.Proofs.YteceinojmdgmeaaGreat

