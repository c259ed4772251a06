/- The statement HandlerLooks: what the handler answers to any request is what the reference answers. -/
import Derived.Test.YtfgicmekkjhlkaaHandK
import Derived.Deep.RegionHeld3
import Derived.Deep.DrawnRows
namespace Go.Proofs.Ytfgicmekkjhlkaa
open Go.RowKit
set_option linter.unusedVariables false
set_option linter.unusedSimpArgs false
attribute [local go_sem ↓] Go.wp_at_zero Go.wp_at_succ

theorem keepcell {W w' : World} (hb : Below W.heap.size W w') {g i : Nat} {v : Value} (hg : g < W.heap.size) (h : W.cell? ⟨g, i, none⟩ = some v) : w'.cell? ⟨g, i, none⟩ = some v :=
  (hb.cell (p := ⟨g, i, none⟩) hg).trans h
theorem keepbelow {w W w' : World} (hb : Below W.heap.size W w') {B : Nat} (hB : B < W.heap.size) (h : Below B w W) : Below B w w' := h.trans (hb.mono (Nat.le_of_lt hB))
theorem keepsize {W w' : World} (hb : Below W.heap.size W w') {g : Nat} (hg : g < W.heap.size) : g < w'.heap.size := Nat.lt_of_lt_of_le hg hb.size
theorem keep8 {w W w' : World} (B : Nat) (v0 v1 v2 v3 v4 v5 : Value) (hb : Below W.heap.size W w') (h0 : W.cell? ⟨B, 0, none⟩ = some v0) (h1 : W.cell? ⟨B, 1, none⟩ = some v1) (h2 : W.cell? ⟨B, 2, none⟩ = some v2) (h3 : W.cell? ⟨B, 3, none⟩ = some v3)
    (h4 : W.cell? ⟨B, 4, none⟩ = some v4) (h5 : W.cell? ⟨B, 5, none⟩ = some v5) (h6 : Below B w W) (h7 : B < W.heap.size) :
    w'.cell? ⟨B, 0, none⟩ = some v0 ∧ w'.cell? ⟨B, 1, none⟩ = some v1 ∧ w'.cell? ⟨B, 2, none⟩ = some v2 ∧ w'.cell? ⟨B, 3, none⟩ = some v3 ∧ w'.cell? ⟨B, 4, none⟩ = some v4 ∧ w'.cell? ⟨B, 5, none⟩ = some v5 ∧ Below B w w' ∧ B < w'.heap.size :=
  ⟨keepcell hb h7 h0, keepcell hb h7 h1, keepcell hb h7 h2, keepcell hb h7 h3, keepcell hb h7 h4, keepcell hb h7 h5, keepbelow hb h7 h6, keepsize hb h7⟩
theorem cells6 (w : World) (g : Nat) (t : TypeId) (a b c d e f : Value) (h : w.heap[g]? = some (.cells #[a, b, c, d, e, f] t (0, 0))) :
    w.cell? ⟨g, 0, none⟩ = some a ∧ w.cell? ⟨g, 1, none⟩ = some b ∧ w.cell? ⟨g, 2, none⟩ = some c ∧ w.cell? ⟨g, 3, none⟩ = some d ∧ w.cell? ⟨g, 4, none⟩ = some e ∧ w.cell? ⟨g, 5, none⟩ = some f := by
  refine ⟨?_, ?_, ?_, ?_, ?_, ?_⟩ <;> rw [cell_of_row w g _ _ _ _ h] <;> rfl
set_option maxHeartbeats 4000000 in
theorem looks_any (m sc p h : ByteArray) (x y n1 n2 : Int) (w : World) (hm : m.size ≤ 200) (hp : p.size ≤ 200) :
    Calls Try.prog 3 #[.agg #[.string m, .string sc, .string p, .string h, .int .i64 x, .int .i64 y], .int .i64 n1, .int .i64 n2] w fun e w' => e = .returned (.bool true) ∧ Below w.heap.size w w' := by
  obtain ⟨c1, c2, c3, c4, c5, hj⟩ : ∃ c1 c2 c3 c4 c5 : Int, lookJ m p = (c1, c2, c3, c4, c5) := ⟨_, _, _, _, _, rfl⟩
  obtain ⟨a, b, c, hr⟩ : ∃ a b c, routeOf (plainL p.data.toList) = (a, b, c) := ⟨_, _, _, rfl⟩
  obtain ⟨al, hal⟩ : ∃ al, allowedL m.data.toList = al := ⟨_, rfl⟩
  obtain ⟨q, hq⟩ : ∃ q : ByteArray, (⟨(plainL p.data.toList).toArray⟩ : ByteArray) = q := ⟨_, rfl⟩
  have hps : p.size ≤ maxLen := by unfold maxLen; omega
  have h8 := fun W => look_any m sc p h x y W hps
  have h9 := fun W => refLook_any m sc p h x y W hps
  have h10 := fun W => find_any p W hps hr
  have h11 := fun W => refFind_any p W hps hr
  have h12 := fun W => allowed_any m W
  have h13 := fun W => refAllowed_any m W
  rw [hj] at h8 h9
  rw [hq] at h10 h11
  rw [hal] at h12 h13
  have H8 := Lib.hid h8
  have H9 := Lib.hid h9
  have H10 := Lib.hid h10
  have H11 := Lib.hid h11
  have H12 := Lib.hid h12
  have H13 := Lib.hid h13
  clear h8 h9 h10 h11 h12 h13 hj hr hal hq hps
  go_enter Try.func3, Try.ntmps3
  go_wp2_with fail
  have hblk := heap_alloc_new w (.cells #[.string m, .string sc, .string p, .string h, .int .i64 x, .int .i64 y] 23)
  have hbel : Below w.heap.size w (w.alloc (.cells #[.string m, .string sc, .string p, .string h, .int .i64 x, .int .i64 y] 23)) := (Below.refl _ _).alloc (Nat.le_refl _) _
  have hsz : w.heap.size < (w.alloc (.cells #[.string m, .string sc, .string p, .string h, .int .i64 x, .int .i64 y] 23)).heap.size := by simp
  generalize w.alloc (.cells #[.string m, .string sc, .string p, .string h, .int .i64 x, .int .i64 y] 23) = W0 at hblk hbel hsz ⊢
  obtain ⟨f0, f1, f2, f3, f4, f5⟩ := cells6 _ _ _ _ _ _ _ _ _ hblk
  clear hblk
  generalize hB : w.heap.size = B at hbel hsz f0 f1 f2 f3 f4 f5 ⊢
  have HB := Lib.hid hB
  clear hB
  have hbeld : Below B w W0.drew := hbel.drew
  go_region_held3 (fun w' => w'.cell? ⟨B, 0, none⟩ = some (.string m) ∧ w'.cell? ⟨B, 1, none⟩ = some (.string sc) ∧ w'.cell? ⟨B, 2, none⟩ = some (.string p) ∧ w'.cell? ⟨B, 3, none⟩ = some (.string h) ∧ w'.cell? ⟨B, 4, none⟩ = some (.int .i64 x) ∧ w'.cell? ⟨B, 5, none⟩ = some (.int .i64 y) ∧ Below B w w' ∧ B < w'.heap.size)
    ((refine ⟨?_, ?_, ?_, ?_, ?_, ?_, ?_, ?_⟩ <;> first | assumption | (refine Below.drew ?_; assumption)))
    (first
      | (go_at_call 8; refine (H8.out _).mono ?_; rintro e w' ⟨rfl, hb⟩; obtain ⟨_, _, _, _, _, _, _, _⟩ := keep8 (w := w) B (.string m) (.string sc) (.string p) (.string h) (.int .i64 x) (.int .i64 y) hb (by assumption) (by assumption) (by assumption) (by assumption) (by assumption) (by assumption) (by assumption) (by assumption); clear hb; unfold jobV)
      | (go_at_call 9; refine (H9.out _).mono ?_; rintro e w' ⟨rfl, hb⟩; obtain ⟨_, _, _, _, _, _, _, _⟩ := keep8 (w := w) B (.string m) (.string sc) (.string p) (.string h) (.int .i64 x) (.int .i64 y) hb (by assumption) (by assumption) (by assumption) (by assumption) (by assumption) (by assumption) (by assumption) (by assumption); clear hb; unfold jobV)
      | (go_at_call 10; refine (H10.out _).mono ?_; rintro e w' ⟨rfl, hb⟩; obtain ⟨_, _, _, _, _, _, _, _⟩ := keep8 (w := w) B (.string m) (.string sc) (.string p) (.string h) (.int .i64 x) (.int .i64 y) hb (by assumption) (by assumption) (by assumption) (by assumption) (by assumption) (by assumption) (by assumption) (by assumption); clear hb)
      | (go_at_call 11; refine (H11.out _).mono ?_; rintro e w' ⟨rfl, hb⟩; obtain ⟨_, _, _, _, _, _, _, _⟩ := keep8 (w := w) B (.string m) (.string sc) (.string p) (.string h) (.int .i64 x) (.int .i64 y) hb (by assumption) (by assumption) (by assumption) (by assumption) (by assumption) (by assumption) (by assumption) (by assumption); clear hb)
      | (go_at_call 12; refine (H12.out _).mono ?_; rintro e w' ⟨rfl, rfl⟩)
      | (go_at_call 13; refine (H13.out _).mono ?_; rintro e w' ⟨rfl, rfl⟩)
      | (go_at_call 14; refine (refused_any _ _ _).mono ?_; rintro e w' ⟨rfl, hb⟩; obtain ⟨_, _, _, _, _, _, _, _⟩ := keep8 (w := w) B (.string m) (.string sc) (.string p) (.string h) (.int .i64 x) (.int .i64 y) hb (by assumption) (by assumption) (by assumption) (by assumption) (by assumption) (by assumption) (by assumption) (by assumption); clear hb; unfold jobV)
      | (go_at_call 15; refine (refRefused_any _ _ _).mono ?_; rintro e w' ⟨rfl, hb⟩; obtain ⟨_, _, _, _, _, _, _, _⟩ := keep8 (w := w) B (.string m) (.string sc) (.string p) (.string h) (.int .i64 x) (.int .i64 y) hb (by assumption) (by assumption) (by assumption) (by assumption) (by assumption) (by assumption) (by assumption) (by assumption); clear hb; unfold jobV)
      | (go_at_call 7; refine (back_any _ _ _ _ _ _).mono ?_; rintro e w' ⟨rfl, hb⟩; obtain ⟨_, _, _, _, _, _, _, _⟩ := keep8 (w := w) B (.string m) (.string sc) (.string p) (.string h) (.int .i64 x) (.int .i64 y) hb (by assumption) (by assumption) (by assumption) (by assumption) (by assumption) (by assumption) (by assumption) (by assumption); clear hb)
      | (go_at_call 6; refine (awake_any _).mono ?_; rintro e w' ⟨rfl, hb⟩; obtain ⟨_, _, _, _, _, _, _, _⟩ := keep8 (w := w) B (.string m) (.string sc) (.string p) (.string h) (.int .i64 x) (.int .i64 y) hb (by assumption) (by assumption) (by assumption) (by assumption) (by assumption) (by assumption) (by assumption) (by assumption); clear hb))
  all_goals
    go_wp2
    go_ret
    exact ⟨rfl, by rw [HB.out]; assumption⟩
/-- The walk at every request: texts that are too long end in the check of some paths. -/
theorem looks_all (m sc p h : ByteArray) (x y n1 n2 : Int) (w : World) (_ : m.size ≤ maxLen) (_ : sc.size ≤ maxLen) (_ : p.size ≤ maxLen) (_ : h.size ≤ maxLen) (_ : (Lit.int .i64 x).wf = true) (_ : (Lit.int .i64 y).wf = true) (_ : (Lit.int .i64 n1).wf = true) (_ : (Lit.int .i64 n2).wf = true) :
    Calls Try.prog 3 #[.agg #[.string m, .string sc, .string p, .string h, .int .i64 x, .int .i64 y], .int .i64 n1, .int .i64 n2] w fun e w' => e = .returned (.bool true) ∧ Below w.heap.size w w' := by
  by_cases hm : m.size ≤ 200
  · by_cases hp : p.size ≤ 200
    · exact looks_any m sc p h x y n1 n2 w hm hp
    · have hp' : (200 : Int) < (p.size : Int) := by omega
      go_enter Try.func3, Try.ntmps3
      go_wp2_with fail
      refine (awake_any _).mono ?_
      rintro e w1 ⟨rfl, hb⟩
      go_wp2_with fail
      go_ret
      exact ⟨rfl, ((Below.refl _ _).alloc (Nat.le_refl _) _).trans (hb.mono (by simp))⟩
  · have hm' : (200 : Int) < (m.size : Int) := by omega
    go_enter Try.func3, Try.ntmps3
    go_wp2_with fail
    refine (awake_any _).mono ?_
    rintro e w1 ⟨rfl, hb⟩
    go_wp2_with fail
    go_ret
    exact ⟨rfl, ((Below.refl _ _).alloc (Nat.le_refl _) _).trans (hb.mono (by simp))⟩
end Go.Proofs.Ytfgicmekkjhlkaa
