/- The statement HandlerRoutes: each route is found by its path, and nothing behind it but a question mark leads there. -/
import Derived.Test.YtfgicmekkjhlkaaHandK
import Derived.Test.YtfgicmekkjhlkaaLaw
import Derived.Deep.RegionHeld3
import Derived.Deep.DrawnRows
import Derived.OpenShut
namespace Go.Proofs.Ytfgicmekkjhlkaa
open Go.RowKit
set_option linter.unusedVariables false
set_option linter.unusedSimpArgs false
attribute [local go_sem ↓] Go.wp_at_zero Go.wp_at_succ

theorem cells4 (w : World) (g : Nat) (t : TypeId) (a b c d : Value) (h : w.heap[g]? = some (.cells #[a, b, c, d] t (0, 0))) :
    w.cell? ⟨g, 0, none⟩ = some a ∧ w.cell? ⟨g, 1, none⟩ = some b ∧ w.cell? ⟨g, 2, none⟩ = some c ∧ w.cell? ⟨g, 3, none⟩ = some d := by
  refine ⟨?_, ?_, ?_, ?_⟩ <;> rw [cell_of_row w g _ _ _ _ h] <;> rfl
theorem routes_cell {w : World} {base g cap : Nat} (h : w.ownsRow base 38 4 (.slice (some ⟨g, 0, none⟩) 5 cap) 5 (rCellsTo 5)) (k : Nat) (hk : k < 5) :
    w.cell? ⟨g, k * 4, none⟩ = some (.string (rQ k)) ∧ w.cell? ⟨g, k * 4 + 1, none⟩ = some (.int .i64 (rC k)) ∧ w.cell? ⟨g, k * 4 + 2, none⟩ = some (.int .i64 (rS k)) ∧ w.cell? ⟨g, k * 4 + 3, none⟩ = some (.int .i64 (rL k)) := by
  refine ⟨?_, ?_, ?_, ?_⟩ <;> rw [h.cellAt _ (by omega)] <;> (match k, hk with | 0, _ => rfl | 1, _ => rfl | 2, _ => rfl | 3, _ => rfl | 4, _ => rfl)

theorem rQ_size (k : Nat) : (rQ k).size ≤ 6 := by
  match k with
  | 0 => decide
  | 1 => decide
  | 2 => decide
  | 3 => decide
  | k + 4 => show (6 : Nat) ≤ 6; decide
theorem rP_noMark (k : Nat) : noMark (rP k) = true := by
  match k with
  | 0 => decide
  | 1 => decide
  | 2 => decide
  | 3 => decide
  | k + 4 => show noMark [47, 101, 109, 112, 116, 121] = true; decide
theorem app_list (a b : ByteArray) : (a ++ b).data.toList = a.data.toList ++ b.data.toList := by simp
theorem find_own (k : Nat) (hk : k < 5) (W : World) : Calls Try.prog 10 #[.string (rQ k)] W fun e w' => e = .returned (.agg #[.string (rQ k), .int .i64 (rC k), .int .i64 (rS k), .int .i64 (rL k)]) ∧ Below W.heap.size W w' := by
  have h := find_at (rQ k) (rQ k) (by rw [rQ_list, plain_of_noMark (rP_noMark k)]; rfl) W (by have := rQ_size k; unfold maxLen; omega)
  rw [routeV_of (route_hit _ k hk (rQ_list k))] at h
  exact h
theorem find_marked (k : Nat) (hk : k < 5) (s : ByteArray) (hs : s.size ≤ 200) (W : World) : Calls Try.prog 10 #[.string (rQ k ++ ⟨#[63]⟩ ++ s)] W fun e w' => e = .returned (.agg #[.string (rQ k), .int .i64 (rC k), .int .i64 (rS k), .int .i64 (rL k)]) ∧ Below W.heap.size W w' := by
  have h := find_at (rQ k ++ ⟨#[63]⟩ ++ s) (rQ k) (by
    rw [app_list, app_list, rQ_list]
    have e : rP k ++ (⟨#[63]⟩ : ByteArray).data.toList ++ s.data.toList = rP k ++ 63 :: s.data.toList := by simp
    rw [e, plain_append (rP_noMark k)]; exact (str_eq (rQ_list k)).symm) W (by have h1 := rQ_size k; have h2 : (⟨#[63]⟩ : ByteArray).size = 1 := rfl; unfold maxLen; simp only [ByteArray.size_append]; omega)
  rw [routeV_of (route_hit _ k hk (rQ_list k))] at h
  exact h
theorem find_more (k : Nat) (hk : k < 5) (W : World) : Calls Try.prog 10 #[.string (rQ k ++ ⟨#[97]⟩)] W fun e w' => e = .returned (.agg #[.string (rQ k ++ ⟨#[97]⟩), .int .i64 1, .int .i64 404, .int .i64 0]) ∧ Below W.heap.size W w' := by
  have hl : (rQ k ++ ⟨#[97]⟩).data.toList = rP k ++ [97] := by rw [app_list, rQ_list]
  have hr : routeOf (rQ k ++ ⟨#[97]⟩).data.toList = (1, 404, 0) := by
    rw [hl]
    match k, hk with
    | 0, _ => decide +kernel
    | 1, _ => decide +kernel
    | 2, _ => decide +kernel
    | 3, _ => decide +kernel
    | 4, _ => decide +kernel
  have h := find_at (rQ k ++ ⟨#[97]⟩) (rQ k ++ ⟨#[97]⟩) (by
    rw [hl, plain_of_noMark (by have := rP_noMark k; unfold noMark at this ⊢; rw [List.all_append, this]; rfl)]
    exact (str_eq hl).symm) W (by have h1 := rQ_size k; have h2 : (⟨#[97]⟩ : ByteArray).size = 1 := rfl; unfold maxLen; simp only [ByteArray.size_append]; omega)
  rw [routeV_of hr] at h
  exact h

set_option maxHeartbeats 4000000 in
theorem routesLaw_any (n : Nat) (s : ByteArray) (w : World) (hn : n < 256) (hs : s.size ≤ 200) :
    Calls Try.prog 4 #[.int .u8 n, .string s] w fun e w' => e = .returned (.bool true) ∧ Below w.heap.size w w' := by
  go_enter Try.func4, Try.ntmps4
  go_wp2_with fail
  refine (routes_any _).mono ?_
  rintro e w1 ⟨g, cap, rfl, hown, hb1⟩
  have B1 := Lib.hid hb1
  have hk : n % 5 < 5 := Nat.mod_lt _ (by omega)
  obtain ⟨c0, c1, c2, c3⟩ := routes_cell hown (n % 5) hk
  have hq := rQ_size (n % 5)
  clear hown hb1
  go_wp2_with fail
  generalize n % 5 = k at *
  refine (find_marked k hk s hs _).mono ?_
  rintro e w2 ⟨rfl, hb2⟩
  have X2 := Lib.hid ((hb2.block w1.heap.size (by simp)).trans (heap_alloc_new w1 _))
  have B2 := Lib.hid ((B1.out.alloc B1.out.size _).trans (hb2.mono (by have := B1.out.size; simp; omega)))
  have z2 : w1.heap.size < w2.heap.size := by have := hb2.size; simp at this; omega
  clear hb2 B1 c0 c1 c2 c3
  obtain ⟨x0, _, _, _⟩ := cells4 _ _ _ _ _ _ _ X2.out
  go_wp2_with fail
  refine (find_more k hk _).mono ?_
  rintro e w3 ⟨rfl, hb3⟩
  have Y3 := Lib.hid ((hb3.block w2.heap.size (by simp)).trans (heap_alloc_new w2 _))
  have X3 := Lib.hid ((hb3.block w1.heap.size (by simp; omega)).trans ((heap_alloc_old w2 _ z2).trans X2.out))
  have B3 := Lib.hid ((B2.out.alloc B2.out.size _).trans (hb3.mono (by have := B2.out.size; simp; omega)))
  have z3 : w2.heap.size < w3.heap.size := by have := hb3.size; simp at this; omega
  clear hb3 B2 X2 x0
  go_wp2_with fail
  have hK : Kept w.heap.size w [(w1.heap.size, 0, .string (rQ k)), (w1.heap.size, 1, .int .i64 (rC k)), (w1.heap.size, 2, .int .i64 (rS k)), (w1.heap.size, 3, .int .i64 (rL k)), (w2.heap.size, 0, .string (rQ k)), (w2.heap.size, 1, .int .i64 (rC k)), (w2.heap.size, 2, .int .i64 (rS k)), (w2.heap.size, 3, .int .i64 (rL k)),
      (w3.heap.size, 0, .string (rQ k ++ ⟨#[97]⟩)), (w3.heap.size, 1, .int .i64 1), (w3.heap.size, 2, .int .i64 404), (w3.heap.size, 3, .int .i64 0)] (w3.alloc (.cells #[.string (rQ k ++ ⟨#[97]⟩), .int .i64 1, .int .i64 404, .int .i64 0] 38)) := by
    obtain ⟨x0, x1, x2, x3⟩ := cells4 _ _ _ _ _ _ _ ((heap_alloc_old w3 (.cells #[.string (rQ k ++ ⟨#[97]⟩), .int .i64 1, .int .i64 404, .int .i64 0] 38) (Nat.lt_trans z2 z3)).trans X3.out)
    obtain ⟨y0, y1, y2, y3⟩ := cells4 _ _ _ _ _ _ _ ((heap_alloc_old w3 (.cells #[.string (rQ k ++ ⟨#[97]⟩), .int .i64 1, .int .i64 404, .int .i64 0] 38) z3).trans Y3.out)
    obtain ⟨u0, u1, u2, u3⟩ := cells4 _ _ _ _ _ _ _ (heap_alloc_new w3 (.cells #[.string (rQ k ++ ⟨#[97]⟩), .int .i64 1, .int .i64 404, .int .i64 0] 38))
    have hz : (w3.alloc (.cells #[.string (rQ k ++ ⟨#[97]⟩), .int .i64 1, .int .i64 404, .int .i64 0] 38)).heap.size = w3.heap.size + 1 := by simp
    have a1 : w1.heap.size < (w3.alloc (.cells #[.string (rQ k ++ ⟨#[97]⟩), .int .i64 1, .int .i64 404, .int .i64 0] 38)).heap.size := by omega
    have a2 : w2.heap.size < (w3.alloc (.cells #[.string (rQ k ++ ⟨#[97]⟩), .int .i64 1, .int .i64 404, .int .i64 0] 38)).heap.size := by omega
    have a3 : w3.heap.size < (w3.alloc (.cells #[.string (rQ k ++ ⟨#[97]⟩), .int .i64 1, .int .i64 404, .int .i64 0] 38)).heap.size := by omega
    exact ⟨⟨x0, x1, x2, x3, y0, y1, y2, y3, u0, u1, u2, u3, trivial⟩, ⟨a1, a1, a1, a1, a2, a2, a2, a2, a3, a3, a3, a3, trivial⟩, B3.out.alloc B3.out.size _, by have := B3.out.size; omega⟩
  generalize w3.alloc (.cells #[.string (rQ k ++ ⟨#[97]⟩), .int .i64 1, .int .i64 404, .int .i64 0] 38) = W0 at hK ⊢
  generalize w1.heap.size = bx at hK ⊢
  generalize w2.heap.size = bu at hK ⊢
  generalize w3.heap.size = bz at hK ⊢
  generalize hB : w.heap.size = B at hK
  have HB := Lib.hid hB
  clear hB X3 Y3 B3 z2 z3
  have hKd := hK.drew
  obtain ⟨_, _, _, _, _, _, _, _, _, _, _, _, _⟩ := hK.cells
  have hadd := fun W : World => run_string_add_sum (P := Try.prog) (w := W) (rQ k) ⟨#[97]⟩ (by have h2 : (⟨#[97]⟩ : ByteArray).size = 1 := rfl; omega)
  go_region_held3 (fun w' => w'.cell? ⟨bx, 0, none⟩ = some (.string (rQ k)) ∧ w'.cell? ⟨bx, 1, none⟩ = some (.int .i64 (rC k)) ∧ w'.cell? ⟨bx, 2, none⟩ = some (.int .i64 (rS k)) ∧ w'.cell? ⟨bx, 3, none⟩ = some (.int .i64 (rL k)) ∧ w'.cell? ⟨bu, 0, none⟩ = some (.string (rQ k)) ∧ w'.cell? ⟨bu, 1, none⟩ = some (.int .i64 (rC k)) ∧ w'.cell? ⟨bu, 2, none⟩ = some (.int .i64 (rS k)) ∧ w'.cell? ⟨bu, 3, none⟩ = some (.int .i64 (rL k)) ∧ w'.cell? ⟨bz, 0, none⟩ = some (.string (rQ k ++ ⟨#[97]⟩)) ∧ w'.cell? ⟨bz, 1, none⟩ = some (.int .i64 1) ∧ w'.cell? ⟨bz, 2, none⟩ = some (.int .i64 404) ∧ w'.cell? ⟨bz, 3, none⟩ = some (.int .i64 0) ∧ Kept B w [(bx, 0, .string (rQ k)), (bx, 1, .int .i64 (rC k)), (bx, 2, .int .i64 (rS k)), (bx, 3, .int .i64 (rL k)), (bu, 0, .string (rQ k)), (bu, 1, .int .i64 (rC k)), (bu, 2, .int .i64 (rS k)), (bu, 3, .int .i64 (rL k)), (bz, 0, .string (rQ k ++ ⟨#[97]⟩)), (bz, 1, .int .i64 1), (bz, 2, .int .i64 404), (bz, 3, .int .i64 0)] w')
    ((refine ⟨?_, ?_, ?_, ?_, ?_, ?_, ?_, ?_, ?_, ?_, ?_, ?_, ?_⟩ <;> assumption))
    (first
      | (go_at_call 10; refine (find_own k hk _).mono ?_; rintro e w' ⟨rfl, hb⟩; have hK' : Kept B w [(bx, 0, .string (rQ k)), (bx, 1, .int .i64 (rC k)), (bx, 2, .int .i64 (rS k)), (bx, 3, .int .i64 (rL k)), (bu, 0, .string (rQ k)), (bu, 1, .int .i64 (rC k)), (bu, 2, .int .i64 (rS k)), (bu, 3, .int .i64 (rL k)), (bz, 0, .string (rQ k ++ ⟨#[97]⟩)), (bz, 1, .int .i64 1), (bz, 2, .int .i64 404), (bz, 3, .int .i64 0)] w' := Kept.step hb (by assumption); obtain ⟨_, _, _, _, _, _, _, _, _, _, _, _, _⟩ := hK'.cells; clear hb)
      | (go_at_call 6; refine (awake_any _).mono ?_; rintro e w' ⟨rfl, hb⟩; have hK' : Kept B w [(bx, 0, .string (rQ k)), (bx, 1, .int .i64 (rC k)), (bx, 2, .int .i64 (rS k)), (bx, 3, .int .i64 (rL k)), (bu, 0, .string (rQ k)), (bu, 1, .int .i64 (rC k)), (bu, 2, .int .i64 (rS k)), (bu, 3, .int .i64 (rL k)), (bz, 0, .string (rQ k ++ ⟨#[97]⟩)), (bz, 1, .int .i64 1), (bz, 2, .int .i64 404), (bz, 3, .int .i64 0)] w' := Kept.step hb (by assumption); obtain ⟨_, _, _, _, _, _, _, _, _, _, _, _, _⟩ := hK'.cells; clear hb))
  all_goals
    go_wp2
    go_ret
    exact ⟨rfl, by rw [HB.out]; exact Kept.below (by assumption)⟩

theorem routesLaw_all (a : Int) (s : ByteArray) (w : World) (ha : (Lit.int .u8 a).wf = true) (_ : s.size ≤ maxLen) :
    Calls Try.prog 4 #[.int .u8 a, .string s] w fun e w' => e = .returned (.bool true) ∧ Below w.heap.size w w' := by
  have hr := bounds_u8 ha
  obtain ⟨n, rfl⟩ := Int.eq_ofNat_of_zero_le hr.1
  by_cases hs : s.size ≤ 200
  · exact routesLaw_any n s w (by omega) hs
  · have hs' : (200 : Int) < (s.size : Int) := by omega
    clear ha hr hs
    go_enter Try.func4, Try.ntmps4
    go_wp2_with fail
    refine (routes_any _).mono ?_
    rintro e w1 ⟨g, cap, rfl, _, hb1⟩
    have B1 := Lib.hid hb1
    clear hb1
    go_wp2_with fail
    refine (awake_any _).mono ?_
    rintro e w2 ⟨rfl, hb⟩
    have B2 := Lib.hid (B1.out.trans (hb.mono B1.out.size))
    clear hb
    go_wp2_with fail
    go_ret
    exact ⟨rfl, B2.out⟩
end Go.Proofs.Ytfgicmekkjhlkaa
