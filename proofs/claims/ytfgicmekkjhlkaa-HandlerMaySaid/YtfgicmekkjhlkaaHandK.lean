/- The check of some paths that each of the handler's statements makes at its end comes to true. -/
import Derived.Test.YtfgicmekkjhlkaaHandR
namespace Go.Proofs.Ytfgicmekkjhlkaa
open Go.RowKit
set_option linter.unusedVariables false
set_option linter.unusedSimpArgs false

theorem job1 : jobV (lookJ ⟨#[71, 69, 84]⟩ ⟨#[47, 115, 108, 111, 119, 63, 120]⟩) = .agg #[.int .i64 12, .int .i64 200, .int .i64 20, .int .i64 0, .int .i64 20] := by kernel_rfl
theorem job2 : jobV (lookJ ⟨#[72, 69, 65, 68]⟩ ⟨#[47, 98, 105, 103]⟩) = .agg #[.int .i64 3, .int .i64 200, .int .i64 3000, .int .i64 0, .int .i64 0] := by kernel_rfl
theorem job3 : jobV (lookJ ⟨#[80, 85, 84]⟩ ⟨#[47]⟩) = .agg #[.int .i64 1, .int .i64 405, .int .i64 0, .int .i64 0, .int .i64 0] := by kernel_rfl
theorem aw1 (W : World) : Calls Try.prog 8 #[.agg #[.string ⟨#[71, 69, 84]⟩, .string ⟨#[]⟩, .string ⟨#[47, 115, 108, 111, 119, 63, 120]⟩, .string ⟨#[]⟩, .int .i64 0, .int .i64 0]] W fun e w' => e = .returned (.agg #[.int .i64 12, .int .i64 200, .int .i64 20, .int .i64 0, .int .i64 20]) ∧ Below W.heap.size W w' := by
  have h := look_any ⟨#[71, 69, 84]⟩ ⟨#[]⟩ ⟨#[47, 115, 108, 111, 119, 63, 120]⟩ ⟨#[]⟩ 0 0 W (by decide)
  rw [job1] at h
  exact h
theorem aw2 (W : World) : Calls Try.prog 8 #[.agg #[.string ⟨#[72, 69, 65, 68]⟩, .string ⟨#[]⟩, .string ⟨#[47, 98, 105, 103]⟩, .string ⟨#[]⟩, .int .i64 0, .int .i64 0]] W fun e w' => e = .returned (.agg #[.int .i64 3, .int .i64 200, .int .i64 3000, .int .i64 0, .int .i64 0]) ∧ Below W.heap.size W w' := by
  have h := look_any ⟨#[72, 69, 65, 68]⟩ ⟨#[]⟩ ⟨#[47, 98, 105, 103]⟩ ⟨#[]⟩ 0 0 W (by decide)
  rw [job2] at h
  exact h
theorem aw3 (W : World) : Calls Try.prog 8 #[.agg #[.string ⟨#[80, 85, 84]⟩, .string ⟨#[]⟩, .string ⟨#[47]⟩, .string ⟨#[]⟩, .int .i64 0, .int .i64 0]] W fun e w' => e = .returned (.agg #[.int .i64 1, .int .i64 405, .int .i64 0, .int .i64 0, .int .i64 0]) ∧ Below W.heap.size W w' := by
  have h := look_any ⟨#[80, 85, 84]⟩ ⟨#[]⟩ ⟨#[47]⟩ ⟨#[]⟩ 0 0 W (by decide)
  rw [job3] at h
  exact h
theorem route1 : routeV ⟨#[47, 119, 111, 114, 107, 47, 55, 48]⟩ = .agg #[.string ⟨#[47, 119, 111, 114, 107, 47, 55, 48]⟩, .int .i64 70, .int .i64 200, .int .i64 6] := by kernel_rfl
theorem route2 : routeV ⟨#[47, 119, 111, 114, 107, 47, 48, 55, 48]⟩ = .agg #[.string ⟨#[47, 119, 111, 114, 107, 47, 48, 55, 48]⟩, .int .i64 1, .int .i64 404, .int .i64 0] := by kernel_rfl
theorem aw4 (W : World) : Calls Try.prog 10 #[.string ⟨#[47, 119, 111, 114, 107, 47, 55, 48]⟩] W fun e w' => e = .returned (.agg #[.string ⟨#[47, 119, 111, 114, 107, 47, 55, 48]⟩, .int .i64 70, .int .i64 200, .int .i64 6]) ∧ Below W.heap.size W w' := by
  have h := find_at ⟨#[47, 119, 111, 114, 107, 47, 55, 48]⟩ ⟨#[47, 119, 111, 114, 107, 47, 55, 48]⟩ (by kernel_rfl) W (by decide)
  rw [route1] at h
  exact h
theorem aw5 (W : World) : Calls Try.prog 10 #[.string ⟨#[47, 119, 111, 114, 107, 47, 48, 55, 48]⟩] W fun e w' => e = .returned (.agg #[.string ⟨#[47, 119, 111, 114, 107, 47, 48, 55, 48]⟩, .int .i64 1, .int .i64 404, .int .i64 0]) ∧ Below W.heap.size W w' := by
  have h := find_at ⟨#[47, 119, 111, 114, 107, 47, 48, 55, 48]⟩ ⟨#[47, 119, 111, 114, 107, 47, 48, 55, 48]⟩ (by kernel_rfl) W (by decide)
  rw [route2] at h
  exact h
theorem aw6 (W : World) : Calls Try.prog 12 #[.string ⟨#[80, 79, 83, 84]⟩] W fun e w' => e = .returned (.bool true) ∧ W = w' := by
  have h := allowed_any ⟨#[80, 79, 83, 84]⟩ W
  rw [show allowedL (⟨#[80, 79, 83, 84]⟩ : ByteArray).data.toList = true from by kernel_rfl] at h
  exact h
theorem aw7 (W : World) : Calls Try.prog 12 #[.string ⟨#[103, 101, 116]⟩] W fun e w' => e = .returned (.bool false) ∧ W = w' := by
  have h := allowed_any ⟨#[103, 101, 116]⟩ W
  rw [show allowedL (⟨#[103, 101, 116]⟩ : ByteArray).data.toList = false from by kernel_rfl] at h
  exact h
theorem cells5 (w : World) (g : Nat) (t : TypeId) (a b c d e : Value) (h : w.heap[g]? = some (.cells #[a, b, c, d, e] t (0, 0))) :
    w.cell? ⟨g, 0, none⟩ = some a ∧ w.cell? ⟨g, 1, none⟩ = some b ∧ w.cell? ⟨g, 2, none⟩ = some c ∧ w.cell? ⟨g, 3, none⟩ = some d ∧ w.cell? ⟨g, 4, none⟩ = some e := by
  refine ⟨?_, ?_, ?_, ?_, ?_⟩ <;> rw [cell_of_row w g _ _ _ _ h] <;> rfl

theorem field2 (w : World) : (Instr.field 38 (.agg #[.string ⟨#[47, 119, 111, 114, 107, 47, 48, 55, 48]⟩, .int .i64 1, .int .i64 404, .int .i64 0]) 2).run Try.prog w = .ok (.int .i64 404) w := by kernel_rfl
set_option maxHeartbeats 2000000 in
theorem awake_any (w : World) : Calls Try.prog 6 #[] w fun e w' => e = .returned (.bool true) ∧ Below w.heap.size w w' := by
  go_enter Try.func6, Try.ntmps6
  go_wp2_with fail
  refine (aw1 _).mono ?_
  rintro e w1 ⟨rfl, hb1⟩
  have B1 := Lib.hid hb1
  clear hb1
  go_wp2_with fail
  refine (aw2 _).mono ?_
  rintro e w2 ⟨rfl, hb2⟩
  have J2 := Lib.hid ((hb2.block w1.heap.size (by simp)).trans (heap_alloc_new w1 _))
  have B2 := Lib.hid ((B1.out.alloc B1.out.size _).trans (hb2.mono (by have := B1.out.size; simp; omega)))
  have z2 : w1.heap.size < w2.heap.size := by have := hb2.size; simp at this; omega
  clear hb2 B1
  go_wp2_with fail
  refine (aw3 _).mono ?_
  rintro e w3 ⟨rfl, hb3⟩
  have K3 := Lib.hid ((hb3.block w2.heap.size (by simp)).trans (heap_alloc_new w2 _))
  have J3 := Lib.hid ((hb3.block w1.heap.size (by simp; omega)).trans ((heap_alloc_old w2 _ z2).trans J2.out))
  have B3 := Lib.hid ((B2.out.alloc B2.out.size _).trans (hb3.mono (by have := B2.out.size; simp; omega)))
  have z3 : w2.heap.size < w3.heap.size := by have := hb3.size; simp at this; omega
  clear hb3 B2 J2
  go_wp2_with fail
  refine (routes_any _).mono ?_
  rintro e w4 ⟨g, cap, rfl, hown, hb4⟩
  have M4 := Lib.hid ((hb4.block w3.heap.size (by simp)).trans (heap_alloc_new w3 _))
  have K4 := Lib.hid ((hb4.block w2.heap.size (by simp; omega)).trans ((heap_alloc_old w3 _ z3).trans K3.out))
  have J4 := Lib.hid ((hb4.block w1.heap.size (by simp; omega)).trans ((heap_alloc_old w3 _ (Nat.lt_trans z2 z3)).trans J3.out))
  have B4 := Lib.hid ((B3.out.alloc B3.out.size _).trans (hb4.mono (by have := B3.out.size; simp; omega)))
  have HO4 := Lib.hid hown
  clear hb4 B3 J3 K3 hown
  obtain ⟨j0, j1, j2, j3, j4⟩ := cells5 _ _ _ _ _ _ _ _ J4.out
  obtain ⟨k0, k1, k2, k3, k4⟩ := cells5 _ _ _ _ _ _ _ _ K4.out
  obtain ⟨m0, m1, m2, m3, m4⟩ := cells5 _ _ _ _ _ _ _ _ M4.out
  clear J4 K4 M4
  go_wp2_with fail
  refine (aw4 _).mono ?_
  rintro e w5 ⟨rfl, hb5⟩
  have HO5 := Lib.hid (owns_below HO4.out hb5)
  have B5 := Lib.hid (B4.out.trans (hb5.mono B4.out.size))
  clear hb5 HO4 B4 j0 j1 j2 j3 j4 k0 k1 k2 k3 k4 m0 m1 m2 m3 m4
  go_wp2_with fail
  refine (aw5 _).mono ?_
  rintro e w6 ⟨rfl, hb6⟩
  have HO6 := Lib.hid (owns_below HO5.out hb6)
  have B6 := Lib.hid (B5.out.trans (hb6.mono B5.out.size))
  clear hb6 HO5 B5
  have hfld : (Instr.field 38 (.agg #[.string ⟨#[47, 119, 111, 114, 107, 47, 48, 55, 48]⟩, .int .i64 1, .int .i64 404, .int .i64 0]) 2).run Try.prog w6 = .ok (.int .i64 404) w6 := field2 w6
  have c0 : w6.cell? ⟨g, 12, none⟩ = some (.string ⟨#[47, 102, 97, 105, 108]⟩) := by rw [HO6.out.cellAt 12 (by omega)]; rfl
  have c1 : w6.cell? ⟨g, 13, none⟩ = some (.int .i64 2) := by rw [HO6.out.cellAt 13 (by omega)]; rfl
  have c2 : w6.cell? ⟨g, 14, none⟩ = some (.int .i64 500) := by rw [HO6.out.cellAt 14 (by omega)]; rfl
  have c3 : w6.cell? ⟨g, 15, none⟩ = some (.int .i64 0) := by rw [HO6.out.cellAt 15 (by omega)]; rfl
  go_wp2_with fail
  refine (aw6 _).mono ?_
  rintro e w7 ⟨rfl, rfl⟩
  go_wp2_with fail
  refine (aw7 _).mono ?_
  rintro e w7 ⟨rfl, rfl⟩
  go_wp2_with fail
  refine (refused_any 503 2 _).mono ?_
  rintro e w7 ⟨rfl, hb7⟩
  have B7 := Lib.hid (B6.out.trans (hb7.mono B6.out.size))
  unfold jobV
  go_wp2_with fail
  go_ret
  exact ⟨rfl, B7.out⟩
end Go.Proofs.Ytfgicmekkjhlkaa
