/- The statement HandlerMay: each request has a cost from 1 to 1000, and an answer that may be; what stands behind a question mark changes nothing. -/
import Derived.Test.YtfgicmekkjhlkaaHandK
import Derived.Test.YtfgicmekkjhlkaaLaw
import Derived.Test.YtfgicmekkjhlkaaResp
import Derived.Deep.RegionHeld3
import Derived.Deep.DrawnRows
namespace Go.Proofs.Ytfgicmekkjhlkaa
open Go.RowKit
set_option linter.unusedVariables false
set_option linter.unusedSimpArgs false
attribute [local go_sem ↓] Go.wp_at_zero Go.wp_at_succ

theorem cells6 (w : World) (g : Nat) (t : TypeId) (a b c d e f : Value) (h : w.heap[g]? = some (.cells #[a, b, c, d, e, f] t (0, 0))) :
    w.cell? ⟨g, 0, none⟩ = some a ∧ w.cell? ⟨g, 1, none⟩ = some b ∧ w.cell? ⟨g, 2, none⟩ = some c ∧ w.cell? ⟨g, 3, none⟩ = some d ∧ w.cell? ⟨g, 4, none⟩ = some e ∧ w.cell? ⟨g, 5, none⟩ = some f := by
  refine ⟨?_, ?_, ?_, ?_, ?_, ?_⟩ <;> rw [cell_of_row w g _ _ _ _ h] <;> rfl
theorem look_may (m p : ByteArray) : ∃ a b c d : Int, lookJ m p = (a, b, c, 0, d) ∧ 1 ≤ a ∧ a ≤ 1000 ∧ 100 ≤ b ∧ b ≤ 599 ∧ 0 ≤ c ∧ c ≤ 3000 ∧ (d = 0 ∨ (d = c ∧ d ≠ 0)) := by
  obtain ⟨r1, r2, r3, r4, r5, r6⟩ := route_range (plainL p.data.toList)
  by_cases h : allowedL m.data.toList = true
  · unfold lookJ lookL
    rw [if_pos h]
    refine ⟨_, _, _, _, rfl, r1, r2, r3, r4, r5, r6, ?_⟩
    by_cases h1 : (m.data.toList == [72, 69, 65, 68]) = true
    · left; rw [if_pos h1]
    · rw [if_neg h1]
      by_cases h2 : (routeOf (plainL p.data.toList)).2.2 = 0
      · exact .inl h2
      · exact .inr ⟨rfl, h2⟩
  · unfold lookJ lookL
    rw [if_neg h]
    exact ⟨_, _, _, _, rfl, by decide, by decide, by decide, by decide, by decide, by decide, .inl rfl⟩
theorem look_mark (m p s : ByteArray) : lookJ m (p ++ ⟨#[63]⟩ ++ s) = lookJ m p := by
  unfold lookJ lookL
  have e : plainL (p ++ ⟨#[63]⟩ ++ s).data.toList = plainL p.data.toList := by
    have e1 : (p ++ ⟨#[63]⟩ ++ s).data.toList = p.data.toList ++ 63 :: s.data.toList := by simp
    rw [e1, plain_mark]
  rw [e]

set_option maxHeartbeats 4000000 in
theorem may_any (m sc p h s : ByteArray) (x y : Int) (w : World) (hm : m.size ≤ 200) (hp : p.size ≤ 200) (hs : s.size ≤ 200) :
    Calls Try.prog 5 #[.agg #[.string m, .string sc, .string p, .string h, .int .i64 x, .int .i64 y], .string s] w fun e w' => e = .returned (.bool true) ∧ Below w.heap.size w w' := by
  obtain ⟨c1, c2, c3, c5, hj, r1, r2, r3, r4, r5, r6, r7⟩ := look_may m p
  have hps : p.size ≤ maxLen := by unfold maxLen; omega
  have hps' : (p ++ ⟨#[63]⟩ ++ s).size ≤ maxLen := by
    have h2 : (⟨#[63]⟩ : ByteArray).size = 1 := rfl
    unfold maxLen; simp only [ByteArray.size_append]; omega
  have h8 := fun W => look_any m sc p h x y W hps
  have h8' := fun W => look_any m sc (p ++ ⟨#[63]⟩ ++ s) s 7 0 W hps'
  have hc := fun W => check_any c2 c3 0 W
  rw [look_mark] at h8'
  rw [hj] at h8 h8'
  rw [respE_yes (inB_yes r3 r4) (inB_yes r5 (by omega)) (inB_yes (by omega) (by omega))] at hc
  unfold jobV at h8 h8'
  have H8 := Lib.hid h8
  have H8' := Lib.hid h8'
  have HC := Lib.hid hc
  clear h8 h8' hc hj hps hps'
  have hor : c5 = 0 ∨ (c5 = c3 ∧ ((c5 == 0) = false)) := by
    rcases r7 with r7 | ⟨r7, r8⟩
    · exact .inl r7
    · exact .inr ⟨r7, by simpa using r8⟩
  clear r7
  go_enter Try.func5, Try.ntmps5
  go_wp2_with fail
  refine (H8.out _).mono ?_
  rintro e w1 ⟨rfl, hb1⟩
  obtain ⟨kc, kf⟩ := bcell hb1
  obtain ⟨z0, z1, z2, z3, z4⟩ := sizes2 (show w.heap.size + 2 ≤ w1.heap.size by have := hb1.size; simp at this; omega)
  go_wp2_with fail
  have B1 : Below w.heap.size w w1 := (((Below.refl _ _).alloc (Nat.le_refl _) _).alloc (by simp) _).trans (hb1.mono (by simp; omega))
  clear kc kf hb1
  have hK : Kept w.heap.size w [(w1.heap.size, 0, Value.int .i64 c1), (w1.heap.size, 1, Value.int .i64 c2), (w1.heap.size, 2, Value.int .i64 c3), (w1.heap.size, 3, Value.int .i64 0), (w1.heap.size, 4, Value.int .i64 c5), (w1.heap.size + 1, 0, Value.string m), (w1.heap.size + 1, 1, Value.string sc), (w1.heap.size + 1, 2, Value.string (p ++ ⟨#[63]⟩ ++ s)), (w1.heap.size + 1, 3, Value.string s), (w1.heap.size + 1, 4, Value.int .i64 7), (w1.heap.size + 1, 5, Value.int .i64 0)] ((w1.alloc (.cells #[Value.int .i64 c1, Value.int .i64 c2, Value.int .i64 c3, Value.int .i64 0, Value.int .i64 c5] 32)).alloc (.cells #[Value.string m, Value.string sc, Value.string (p ++ ⟨#[63]⟩ ++ s), Value.string s, Value.int .i64 7, Value.int .i64 0] 34)) := by
    obtain ⟨j0, j1, j2, j3, j4⟩ := cells5 _ _ _ _ _ _ _ _ (heap_alloc2_old w1 (.cells #[Value.int .i64 c1, Value.int .i64 c2, Value.int .i64 c3, Value.int .i64 0, Value.int .i64 c5] 32) (.cells #[Value.string m, Value.string sc, Value.string (p ++ ⟨#[63]⟩ ++ s), Value.string s, Value.int .i64 7, Value.int .i64 0] 34))
    obtain ⟨y0, y1, y2, y3, y4, y5⟩ := cells6 _ _ _ _ _ _ _ _ _ (heap_alloc2_new w1 (.cells #[Value.int .i64 c1, Value.int .i64 c2, Value.int .i64 c3, Value.int .i64 0, Value.int .i64 c5] 32) (.cells #[Value.string m, Value.string sc, Value.string (p ++ ⟨#[63]⟩ ++ s), Value.string s, Value.int .i64 7, Value.int .i64 0] 34))
    have hz : ((w1.alloc (.cells #[Value.int .i64 c1, Value.int .i64 c2, Value.int .i64 c3, Value.int .i64 0, Value.int .i64 c5] 32)).alloc (.cells #[Value.string m, Value.string sc, Value.string (p ++ ⟨#[63]⟩ ++ s), Value.string s, Value.int .i64 7, Value.int .i64 0] 34)).heap.size = w1.heap.size + 1 + 1 := by simp
    have a1 : w1.heap.size < ((w1.alloc (.cells #[Value.int .i64 c1, Value.int .i64 c2, Value.int .i64 c3, Value.int .i64 0, Value.int .i64 c5] 32)).alloc (.cells #[Value.string m, Value.string sc, Value.string (p ++ ⟨#[63]⟩ ++ s), Value.string s, Value.int .i64 7, Value.int .i64 0] 34)).heap.size := by omega
    have a2 : w1.heap.size + 1 < ((w1.alloc (.cells #[Value.int .i64 c1, Value.int .i64 c2, Value.int .i64 c3, Value.int .i64 0, Value.int .i64 c5] 32)).alloc (.cells #[Value.string m, Value.string sc, Value.string (p ++ ⟨#[63]⟩ ++ s), Value.string s, Value.int .i64 7, Value.int .i64 0] 34)).heap.size := by omega
    exact ⟨⟨j0, j1, j2, j3, j4, y0, y1, y2, y3, y4, y5, trivial⟩, ⟨a1, a1, a1, a1, a1, a2, a2, a2, a2, a2, a2, trivial⟩, (B1.alloc (by omega) _).alloc (by simp; omega) _, by omega⟩
  generalize ((w1.alloc (.cells #[Value.int .i64 c1, Value.int .i64 c2, Value.int .i64 c3, Value.int .i64 0, Value.int .i64 c5] 32)).alloc (.cells #[Value.string m, Value.string sc, Value.string (p ++ ⟨#[63]⟩ ++ s), Value.string s, Value.int .i64 7, Value.int .i64 0] 34)) = W0 at hK ⊢
  generalize w1.heap.size + 1 = bu at hK ⊢
  generalize w1.heap.size = bj at hK ⊢
  generalize hB : w.heap.size = B at hK
  have HB := Lib.hid hB
  clear hB z0 z1 z2 z3 z4 B1
  rcases hor with h0 | ⟨h0, h1⟩
  all_goals
    subst h0
    refine held_region (by kernel_rfl) (by kernel_rfl) hK ?_
    repeat
      with_reducible refine qrest_step ?_
      intro K hK'
      go_simp
      first
        | (with_reducible refine hK' _ ?_)
        | (with_reducible refine QOp.mk ?_
           apply Exists.intro
           with_reducible refine ⟨?_, hK' _ ?_⟩
           · intro W hW
             obtain ⟨_, _, _, _, _, _, _, _, _, _, _, _⟩ := hW.cells
             unfold QAt
             go_simp
             first
               | (with_reducible rfl)
               | (go_at_call 17; refine (HC.out _).mono ?_; rintro e w' ⟨rfl, hb⟩; exact ⟨rfl, Kept.step hb hW⟩)
               | (go_at_call 8; refine (H8'.out _).mono ?_; rintro e w' ⟨rfl, hb⟩; exact ⟨rfl, Kept.step hb hW⟩)
               | (go_at_call 6; refine (awake_any _).mono ?_; rintro e w' ⟨rfl, hb⟩; exact ⟨rfl, Kept.step hb hW⟩))
      clear hK' K
    with_reducible refine qrest_nil ?_
    intro w' hw'
    go_wp2
    go_ret
    exact ⟨rfl, by rw [HB.out]; exact hw'.below⟩

theorem may_all (m sc p h : ByteArray) (x y : Int) (s : ByteArray) (w : World) (_ : m.size ≤ maxLen) (_ : sc.size ≤ maxLen) (_ : p.size ≤ maxLen) (_ : h.size ≤ maxLen) (_ : (Lit.int .i64 x).wf = true) (_ : (Lit.int .i64 y).wf = true) (_ : s.size ≤ maxLen) :
    Calls Try.prog 5 #[.agg #[.string m, .string sc, .string p, .string h, .int .i64 x, .int .i64 y], .string s] w fun e w' => e = .returned (.bool true) ∧ Below w.heap.size w w' := by
  by_cases hok : m.size ≤ 200 ∧ p.size ≤ 200 ∧ s.size ≤ 200
  · exact may_any m sc p h s x y w hok.1 hok.2.1 hok.2.2
  have hor : (200 : Int) < (m.size : Int) ∨ ((m.size : Int) ≤ 200 ∧ (200 : Int) < (p.size : Int)) ∨ ((m.size : Int) ≤ 200 ∧ (p.size : Int) ≤ 200 ∧ (200 : Int) < (s.size : Int)) := by omega
  clear hok
  rcases hor with h1 | ⟨h1, h2⟩ | ⟨h1, h2, h3⟩
  all_goals
    go_enter Try.func5, Try.ntmps5
    go_wp2_with fail
    refine (awake_any _).mono ?_
    rintro e w1 ⟨rfl, hb⟩
    go_wp2_with fail
    go_ret
    exact ⟨rfl, ((Below.refl _ _).alloc (Nat.le_refl _) _).trans (hb.mono (by simp))⟩
end Go.Proofs.Ytfgicmekkjhlkaa
