/- What handler.Routes returns: the five routes, in new memory. -/
import Derived.Test.YtfgicmekkjhlkaaHandL
import Derived.Maps.AppendAt
import Derived.Deep.AppendLies
namespace Go.Proofs.Ytfgicmekkjhlkaa
open Go.RowKit
set_option linter.unusedVariables false
set_option linter.unusedSimpArgs false

theorem grown_of_below {a w : World} (h : Below a.heap.size a w) (row : Option Nat) : a.grownBy w row := ⟨h.os, h.tape, h.output, h.size, fun i hi _ => h.block i hi⟩
theorem owns_below {w w' : World} {base : Nat} {e : TypeId} {size : Nat} {v : Value} {n : Nat} {xs : List Value} (h : w.ownsRow base e size v n xs) (hb : Below w.heap.size w w') : w'.ownsRow base e size v n xs := by
  refine h.kept (grown_of_below hb none) ?_
  cases hv : v.ownBlock with
  | none => exact .inl rfl
  | some k => exact .inr (by simp)
theorem cells_new (w : World) (cs : List Value) (t : TypeId) : ∀ j u, cs[j]? = some u → (w.alloc (.cells cs.toArray t)).cell? ((⟨w.heap.size, 0, none⟩ : Addr).add j) = some u := by
  intro j u hj
  have ha : ((⟨w.heap.size, 0, none⟩ : Addr).add j) = ⟨w.heap.size, j, none⟩ := by unfold Addr.add; split <;> simp_all
  rw [ha, cell_of_row _ _ _ _ _ _ (heap_alloc_new w _)]
  simpa using hj

/-- The cells of a route. -/
def rCells (k : Nat) : List Value := [.string (rQ k), .int .i64 (rC k), .int .i64 (rS k), .int .i64 (rL k)]
def rCellsTo : Nat → List Value
  | 0 => []
  | k + 1 => rCellsTo k ++ rCells k
theorem route_info : (Try.prog.info? 38).map (fun i => (i.zero, i.size, i.bytes)) = some (some (.agg #[.string ⟨#[]⟩, .int .i64 0, .int .i64 0, .int .i64 0]), 4, 40) := by kernel_rfl
def RoutesPost (w : World) (e : Ending) (w' : World) : Prop :=
  ∃ g cap, e = .returned (.slice (some ⟨g, 0, none⟩) 5 cap) ∧ w'.ownsRow w.heap.size 38 4 (.slice (some ⟨g, 0, none⟩) 5 cap) 5 (rCellsTo 5) ∧ Below w.heap.size w w'

set_option maxHeartbeats 1000000 in
theorem routes_any (w : World) : Calls Try.prog 16 #[] w (RoutesPost w) := by
  obtain ⟨i0, hi0, hz0, hz1, hz2⟩ := info_parts route_info
  have HI := Lib.hid hi0
  have HZ0 := Lib.hid hz0
  have HZ1 := Lib.hid hz1
  have HZ2 := Lib.hid hz2
  clear hi0 hz0 hz1 hz2
  go_enter Try.func16, Try.ntmps16
  go_wp2_with fail
  refine (table_any _).mono ?_
  rintro e w1 ⟨rfl, hb1⟩
  have HB := Lib.hid hb1
  clear hb1
  go_wp2_with fail
  go_loopw [1, 5] (fun v i wr => ∃ (vv : Value) (k : Nat), v = vv ∧ k ≤ 5 ∧ i = .int .i64 k ∧ wr.ownsRow w.heap.size 38 4 vv k (rCellsTo k) ∧ Below w.heap.size w wr) (fun _ i _ => 5 - (intOf i).toNat)
  case atStart => exact ⟨_, 0, rfl, Nat.zero_le _, rfl, World.ownsRow_nil _ _ _ _, HB.out⟩
  case round =>
    obtain ⟨v, k, hv, hk, rfl, hown, bk⟩ := hrel
    obtain rfl := hv.symm
    have HO := Lib.hid hown
    have BK := Lib.hid bk
    clear hown bk
    by_cases hlt : k < 5
    · have hidx := fun W => index_row k hlt W
      go_wp2_with fail
      refine (rowRoute _ _ _ _ _ _).mono ?_
      rintro e w2 ⟨rfl, hb2⟩
      have z2 := hb2.size
      have HO2 := Lib.hid (owns_below (HO.out.alloc _) hb2)
      have B2 := Lib.hid ((BK.out.alloc BK.out.size _).trans (hb2.mono (by have := BK.out.size; simp; omega)))
      clear hb2
      have hc1 : ∀ u ∈ rCells k, u.oneCell' = true := by intro u hu; simp [rCells] at hu; rcases hu with rfl | rfl | rfl | rfl <;> rfl
      have hc2 : k + 1 ≤ maxLen := by unfold maxLen; omega
      have hc4 : w.heap.size ≤ w2.heap.size := B2.out.size
      go_wp2_with (at_builtin; refine wpList_append_own_at _ rfl _ _ 45 rfl w.heap.size 38 i0 _ 4 40 Try.underlying45 HI.out HZ0.out HZ1.out HZ2.out rfl (by omega) v k (rCellsTo k) rfl (HO2.out.alloc _) ⟨w2.heap.size, 0, none⟩ 1 1 (rCells k) rfl rfl (cells_new w2 (rCells k) _) hc1 hc2 (by omega) (by simp; omega) ?_; intro v3 w3 hown3 hg3 _ _; clear hc1 hc2 hc4)
      have B3 := Lib.hid ((B2.out.alloc B2.out.size _).grown hg3 (by have := B2.out.size; simp; omega) (fun q hq => (HO.out.lt q hq).1))
      have HO3 := Lib.hid hown3
      clear hg3 hown3
      go_roundw
      case rel => exact ⟨_, k + 1, rfl, by omega, by go_num, HO3.out, B3.out⟩
      case measure => simp [intOf]; omega
    · obtain rfl : k = 5 := by omega
      go_wp2_with fail
      go_ret
      obtain ⟨g, cap, hv, _, _⟩ := HO.out.form (by omega)
      rw [hv] at HO ⊢
      exact ⟨g, cap, rfl, HO.out, BK.out⟩
end Go.Proofs.Ytfgicmekkjhlkaa
