/- One that is not there counts nothing: the walk. -/
import Derived.Test.YtbpcknjobbjmpaaDoorStaW
namespace Go.Proofs.YtbpcknjobbjmpaaDoor
open Go.RowKit
set_option linter.unusedVariables false
set_option linter.unusedSimpArgs false

set_option maxRecDepth 100000 in
set_option maxHeartbeats 20000000 in
theorem nobody_any (c s k n : Int) (w : World) (hT : Tab w) : Calls Tryd.prog 4 #[.agg #[.int .i64 c, .int .i64 s, .int .i64 k, .int .i64 n]] w fun e w' => e = .returned (.bool true) ∧ Below w.heap.size w w' := by
  have hb0 := (Below.refl w.heap.size w).alloc (Nat.le_refl _) (.cells #[.int .i64 c, .int .i64 s, .int .i64 k, .int .i64 n] 30)
  have hrow := heap_alloc_new w (.cells #[.int .i64 c, .int .i64 s, .int .i64 k, .int .i64 n] 30)
  have CN := Lib.hid (show ∀ W : World, Calls Tryd.prog 10 #[.pointer none, .agg #[.int .i64 c, .int .i64 s, .int .i64 k, .int .i64 n]] W fun e w' => e = .returned (.int .i64 1) ∧ Below W.heap.size W w' from fun W => count_none ⟨c, s, k, n⟩ W)
  have HT := Lib.hid hT
  have HC := Lib.hid (show ∀ W : World, Below (w.heap.size + 1) (w.alloc (.cells #[.int .i64 c, .int .i64 s, .int .i64 k, .int .i64 n] 30)) W → W.cell? ⟨w.heap.size, 2, none⟩ = some (.int .i64 k) from fun W hW => by rw [cell_of_row _ _ _ _ _ _ ((hW.block w.heap.size (by omega)).trans hrow)]; rfl)
  have HB0 := Lib.hid hb0
  have hsz : (w.alloc (.cells #[.int .i64 c, .int .i64 s, .int .i64 k, .int .i64 n] 30)).heap.size = w.heap.size + 1 := by simp
  have HSZ := Lib.hid hsz
  clear hrow hb0 hT hsz
  go_enter Tryd.func4, Tryd.ntmps4
  go_wp2_with (first
    | (go_at_call 10; refine (CN.out _).mono ?_; rintro e w1 ⟨rfl, hb⟩; rw [HSZ.out] at hb; have HB1 := Lib.hid hb; have k1 := HC.out _ HB1.out; clear hb)
    | (go_at_call 13; refine (of_none k _).mono ?_; rintro e w2 ⟨rfl, hb⟩; unfold sumV; have HB2 := Lib.hid (HB1.out.trans (hb.mono (by have := HB1.out.size; rw [HSZ.out] at this; exact this))); clear hb k1)
    | (go_at_call 14; refine (all_none _).mono ?_; rintro e w3 ⟨rfl, hb⟩; unfold sumV; have HB3 := Lib.hid (HB2.out.trans (hb.mono (by have := HB2.out.size; rw [HSZ.out] at this; exact this))); have k3 := HC.out _ HB3.out; clear hb)
    | (go_at_call 17; refine (hist_none _).mono ?_; rintro e w4 ⟨rfl, rfl⟩)
    | (go_at_call 19; refine (share_none k _).mono ?_; rintro e w4 ⟨rfl, hb⟩; have HB4 := Lib.hid (HB3.out.trans (hb.mono (by have := HB3.out.size; rw [HSZ.out] at this; exact this))); clear hb k3)
    | (go_at_call 22; refine (lines_none _).mono ?_; rintro e w5 ⟨rfl, rfl⟩)
    | (go_at_call 24; refine (built_none _).mono ?_; rintro e w5 ⟨rfl, rfl⟩)
    | (go_at_call 8; refine (awake_any _ (HT.out.below (HB0.out.trans (HB4.out.mono (by omega))))).mono ?_; rintro e w6 ⟨rfl, hb⟩; have HB6 := Lib.hid ((HB0.out.trans (HB4.out.mono (by omega))).trans (hb.mono (by have := HB4.out.size; rw [HSZ.out] at this; omega))); clear hb))
  go_ret
  exact ⟨rfl, HB6.out⟩
#print axioms nobody_any
end Go.Proofs.YtbpcknjobbjmpaaDoor
