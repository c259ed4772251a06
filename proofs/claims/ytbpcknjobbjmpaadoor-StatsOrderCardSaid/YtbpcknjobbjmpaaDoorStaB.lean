/- The board of what was counted, in memory; the atomic numbers in it. -/
import Derived.Test.YtbpcknjobbjmpaaDoorStaA
import Derived.Test.YtbpcknjobbjmpaaDoorStaP
import Derived.Tactics
import Derived.Tactics2
import Derived.Defers
import Derived.Laws.Pointers
import Derived.Laws.LoneSync
import Derived.RegionTactic
import Derived.RegionCalls
namespace Go.Proofs.YtbpcknjobbjmpaaDoor
open Go.RowKit
set_option linter.unusedVariables false
set_option linter.unusedSimpArgs false

def nrow (n : Nat) (A : Nat → Int) : Array Value := ((List.range n).map fun i => Value.int .i64 (A i)).toArray
theorem nrow_size (n : Nat) (A : Nat → Int) : (nrow n A).size = n := by simp [nrow]
theorem nrow_at (n : Nat) (A : Nat → Int) (i : Nat) (h : i < n) : (nrow n A)[i]? = some (.int .i64 (A i)) := by
  simp [nrow, h]
theorem nrow_set (n : Nat) (A : Nat → Int) (i : Nat) (x : Int) : (nrow n A).setIfInBounds i (.int .i64 x) = nrow n (upd A i x) := by
  apply Array.ext
  · simp [nrow]
  · intro j h1 h2
    have hj : j < n := by simpa [nrow] using h2
    rw [Array.getElem_setIfInBounds (by simpa [nrow] using hj)]
    simp only [nrow, List.getElem_toArray, List.getElem_map, List.getElem_range, upd]
    by_cases h : i = j
    · rw [if_pos h, if_pos h.symm]
    · rw [if_neg h, if_neg (fun e => h e.symm)]
theorem nrow_cong (n : Nat) {A A' : Nat → Int} (e : ∀ i, i < n → A i = A' i) : nrow n A = nrow n A' := by
  unfold nrow
  congr 1
  exact List.map_congr_left fun i hi => by rw [e i (List.mem_range.1 hi)]
def arow (A : Nat → Int) : Array Value := nrow 30 A
theorem arow_size (A : Nat → Int) : (arow A).size = 30 := nrow_size 30 A
theorem arow_at (A : Nat → Int) (i : Nat) (h : i < 30) : (arow A)[i]? = some (.int .i64 (A i)) := nrow_at 30 A i h
theorem arow_set (A : Nat → Int) (i : Nat) (x : Int) : (arow A).setIfInBounds i (.int .i64 x) = arow (upd A i x) := nrow_set 30 A i x
/-- A board: whether the names are built, its lock, the names, how often they were built, and what was counted. -/
def Brd (p : Nat) (W : World) (d m : Int) (nv : Value) (bt : Int) (A : Nat → Int) : Prop := W.heap[p]? = some (.cells (#[.int .u32 d, .int .i32 m, .int .u32 0, nv, .int .i64 bt] ++ arow A) 91 (0, 0))
variable {p : Nat} {W W' : World} {d m bt : Int} {nv : Value} {A : Nat → Int}
theorem Brd.front (h : Brd p W d m nv bt A) :
    W.cell? ⟨p, 0, none⟩ = some (.int .u32 d) ∧ W.cell? ⟨p, 1, none⟩ = some (.int .i32 m) ∧ W.cell? ⟨p, 2, none⟩ = some (.int .u32 0) ∧ W.cell? ⟨p, 3, none⟩ = some nv ∧ W.cell? ⟨p, 4, none⟩ = some (.int .i64 bt) := by
  refine ⟨?_, ?_, ?_, ?_, ?_⟩ <;> (rw [cell_of_row _ _ _ _ _ _ h, Array.getElem?_append_left (by simp)]; rfl)
theorem Brd.cell (h : Brd p W d m nv bt A) (i : Nat) (hi : i < 30) : W.cell? ⟨p, 5 + i, none⟩ = some (.int .i64 (A i)) := by
  rw [cell_of_row _ _ _ _ _ _ h, Array.getElem?_append_right (by simp)]
  rw [show 5 + i - (#[Value.int .u32 d, .int .i32 m, .int .u32 0, nv, .int .i64 bt] : Array Value).size = i by simp]
  exact arow_at A i hi
theorem Brd.frozen (h : Brd p W d m nv bt A) (i : Nat) : W.frozen? ⟨p, i, none⟩ = false := frozen_of_row _ _ _ _ _ h
theorem Brd.step (h : Brd p W d m nv bt A) (e : W'.heap[p]? = W.heap[p]?) : Brd p W' d m nv bt A := e.trans h
theorem Brd.lt (h : Brd p W d m nv bt A) : p < W.heap.size := (Array.getElem?_eq_some_iff.1 h).1
theorem Brd.below (h : Brd p W d m nv bt A) {B : Nat} (hp : p < B) (hb : Below B W W') : Brd p W' d m nv bt A := h.step (hb.block p hp)
theorem append_set (xs ys : Array Value) (i : Nat) (v : Value) (h : i < xs.size) : (xs ++ ys).setIfInBounds i v = xs.setIfInBounds i v ++ ys := by
  apply Array.ext
  · simp
  · intro j h1 h2
    rw [Array.getElem_setIfInBounds (by simpa using h2)]
    by_cases hj : j < xs.size
    · rw [Array.getElem_append_left hj, Array.getElem_append_left (by simpa using hj), Array.getElem_setIfInBounds (by simpa using hj)]
    · rw [if_neg (by omega), Array.getElem_append_right (by omega), Array.getElem_append_right (by simp; omega)]
      simp
theorem append_set2 (xs ys : Array Value) (i : Nat) (v : Value) : (xs ++ ys).setIfInBounds (xs.size + i) v = xs ++ ys.setIfInBounds i v := by
  apply Array.ext
  · simp
  · intro j h1 h2
    rw [Array.getElem_setIfInBounds (by simpa using h2)]
    by_cases hj : j < xs.size
    · rw [if_neg (by omega), Array.getElem_append_left hj, Array.getElem_append_left hj]
    · rw [Array.getElem_append_right (by omega), Array.getElem_append_right (by omega), Array.getElem_setIfInBounds (by simp at h2; omega)]
      by_cases e : xs.size + i = j
      · rw [if_pos e, if_pos (by omega)]
      · rw [if_neg e, if_neg (by omega)]
theorem Brd.set (h : Brd p W d m nv bt A) (i : Nat) (x : Int) : Brd p (W.setCell ⟨p, 5 + i, none⟩ (.int .i64 x)) d m nv bt (upd A i x) := by
  have := heap_setCell_same W p (5 + i) _ _ (.int .i64 x) h
  have e := append_set2 #[.int .u32 d, .int .i32 m, .int .u32 0, nv, .int .i64 bt] (arow A) i (.int .i64 x)
  rw [arow_set] at e
  unfold Brd
  rw [this, ← e]
  rfl
theorem Brd.setF {d' m' bt' : Int} {nv' : Value} (h : Brd p W d m nv bt A) (i : Nat) (v : Value) (hi : i < 5) (e : (#[Value.int .u32 d, .int .i32 m, .int .u32 0, nv, .int .i64 bt] : Array Value).setIfInBounds i v = #[Value.int .u32 d', .int .i32 m', .int .u32 0, nv', .int .i64 bt']) :
    Brd p (W.setCell ⟨p, i, none⟩ v) d' m' nv' bt' A := by
  have := heap_setCell_same W p i _ _ v h
  have e2 := append_set #[.int .u32 d, .int .i32 m, .int .u32 0, nv, .int .i64 bt] (arow A) i v (by simpa using hi)
  rw [e] at e2
  unfold Brd
  rw [this, e2]
theorem Brd.set0 (h : Brd p W d m nv bt A) (d' : Int) : Brd p (W.setCell ⟨p, 0, none⟩ (.int .u32 d')) d' m nv bt A := h.setF 0 _ (by decide) rfl
theorem Brd.set1 (h : Brd p W d m nv bt A) (m' : Int) : Brd p (W.setCell ⟨p, 1, none⟩ (.int .i32 m')) d m' nv bt A := h.setF 1 _ (by decide) rfl
theorem Brd.set3 (h : Brd p W d m nv bt A) (nv' : Value) : Brd p (W.setCell ⟨p, 3, none⟩ nv') d m nv' bt A := h.setF 3 _ (by decide) rfl
theorem Brd.set4 (h : Brd p W d m nv bt A) (bt' : Int) : Brd p (W.setCell ⟨p, 4, none⟩ (.int .i64 bt')) d m nv bt' A := h.setF 4 _ (by decide) rfl
theorem Brd.cong (h : Brd p W d m nv bt A) {A' : Nat → Int} (e : ∀ i, i < 30 → A i = A' i) : Brd p W d m nv bt A' := by
  have : arow A = arow A' := nrow_cong 30 e
  unfold Brd at h ⊢
  rw [← this]; exact h

/-- Below B nothing has turned but the block p. -/
structure Near (p B : Nat) (w w' : World) : Prop where
  os : w'.os = w.os
  tape : w'.tape = w.tape
  output : w'.output = w.output
  size : w.heap.size ≤ w'.heap.size
  block : ∀ k, k < B → k ≠ p → w'.heap[k]? = w.heap[k]?
theorem Near.refl (p B : Nat) (w : World) : Near p B w w := ⟨rfl, rfl, rfl, Nat.le_refl _, fun _ _ _ => rfl⟩
theorem Near.trans {p B : Nat} {a b c : World} (h : Near p B a b) (k : Near p B b c) : Near p B a c :=
  ⟨k.os.trans h.os, k.tape.trans h.tape, k.output.trans h.output, Nat.le_trans h.size k.size, fun i hi hp => (k.block i hi hp).trans (h.block i hi hp)⟩
theorem Near.mono {p B B' : Nat} {w w' : World} (h : Near p B w w') (hB : B' ≤ B) : Near p B' w w' := ⟨h.os, h.tape, h.output, h.size, fun k hk hp => h.block k (Nat.lt_of_lt_of_le hk hB) hp⟩
theorem Near.drew {p B : Nat} {a w : World} (h : Near p B a w) : Near p B a w.drew := ⟨h.os, h.tape, h.output, h.size, h.block⟩
theorem Near.of {p B : Nat} {w w' : World} (h : Below B w w') : Near p B w w' := ⟨h.os, h.tape, h.output, h.size, fun k hk _ => h.block k hk⟩
theorem Near.below {p B : Nat} {w w' : World} (h : Near p B w w') (hp : p < B) : Below p w w' := ⟨h.os, h.tape, h.output, h.size, fun k hk => h.block k (by omega) (by omega)⟩
theorem Near.alloc {p B : Nat} {a w : World} (h : Near p B a w) (hB : B ≤ w.heap.size) (o : Obj) : Near p B a (w.alloc o) :=
  h.trans (Near.of ((Below.refl B w).alloc hB o))
theorem Near.setCell {p B : Nat} {a w : World} (h : Near p B a w) {q : Addr} (hq : q.block = p ∨ B ≤ q.block) (u : Value) : Near p B a (w.setCell q u) :=
  h.trans ⟨rfl, rfl, rfl, by simp [World.setCell], fun k hk hp => Below.heap_setCell _ _ _ _ (by omega)⟩
theorem Near.grown {p B : Nat} {a w w' : World} {row : Option Nat} (h : Near p B a w) (hg : w.grownBy w' row) (hB : B ≤ w.heap.size) (hr : ∀ k, row = some k → B ≤ k) : Near p B a w' :=
  h.trans (Near.of ((Below.refl B w).grown hg hB hr))

theorem i64_add (a : Addr) (x y s : Int) (w : World) (hc : w.cell? a = some (.int .i64 x)) (hz : w.frozen? a = false) (hs : IntKind.i64.wrap (x + y) = s) :
    Calls Tryd.prog 40 #[.pointer (some a), .int .i64 y] w fun e w' => e = .returned (.int .i64 s) ∧ w' = w.setCell a (.int .i64 s) := by
  have hadd := run_call_add (P := Tryd.prog) Tryd.func60 (by kernel_rfl) (by kernel_rfl) (by kernel_rfl) .i64 (by kernel_rfl) (y := y) (s := s) hc hz (by simp [go_sem]; exact hs)
  go_enter Tryd.func40, Tryd.ntmps40
  go_wp2
  go_ret
  exact ⟨rfl, rfl⟩
theorem i64_load (a : Addr) (x : Int) (w : World) (hc : w.cell? a = some (.int .i64 x)) :
    Calls Tryd.prog 38 #[.pointer (some a)] w fun e w' => e = .returned (.int .i64 x) ∧ w' = w := by
  have hl := run_call_load (P := Tryd.prog) Tryd.func58 (by kernel_rfl) (by kernel_rfl) (by kernel_rfl) .i64 (by kernel_rfl) hc
  go_enter Tryd.func38, Tryd.ntmps38
  go_wp2
  go_ret
  exact ⟨rfl, rfl⟩
theorem i64_store (a : Addr) (x : Value) (y : Int) (w : World) (hc : w.cell? a = some x) (hz : w.frozen? a = false) :
    Calls Tryd.prog 59 #[.pointer (some a), .int .i64 y] w fun e w' => e = .returned (.tuple #[]) ∧ w' = w.setCell a (.int .i64 y) := by
  have hst := run_call_store (P := Tryd.prog) Tryd.func74 (by kernel_rfl) (by kernel_rfl) (by kernel_rfl) (by kernel_rfl) (k := .i64) (y := y) hc hz
  go_enter Tryd.func59, Tryd.ntmps59
  go_wp2
  go_end0
  exact ⟨rfl, rfl⟩
end Go.Proofs.YtbpcknjobbjmpaaDoor
