/- A tally in a board: what is added, what is told. -/
import Derived.Test.YtbpcknjobbjmpaaDoorStaB
import Derived.WalkSmall
import Derived.Deep.RegionHeld
import Derived.Deep.RegionWith
namespace Go.Proofs.YtbpcknjobbjmpaaDoor
open Go.RowKit
set_option linter.unusedVariables false
set_option linter.unusedSimpArgs false

theorem talAdd_any (p a o : Nat) (ha : a = 5 + o) (ho : o + 2 < 30) (cost : Int) (d m : Int) (nv : Value) (bt : Int) (A : Nat → Int) (B : Nat) (w : World) (h : Brd p w d m nv bt A)
    (h0 : 0 ≤ A o ∧ A o ≤ 1000000) (h1 : 0 ≤ A (o + 1) ∧ A (o + 1) ≤ 1000000) (h2 : 0 ≤ A (o + 2) ∧ A (o + 2) ≤ 1000000) (hc : 0 ≤ cost ∧ cost ≤ 2047) :
    Calls Tryd.prog 39 #[.pointer (some ⟨p, a, none⟩), .int .i64 cost] w fun e w' => e = .returned (.tuple #[]) ∧ Brd p w' d m nv bt (add3 A o cost) ∧ Near p B w w' := by
  subst ha
  have c0 := h.cell o (by omega)
  have c1 := ((h.set o (A o + 1))).cell (o + 1) (by omega)
  rw [upd_other _ _ _ _ (by omega)] at c1
  have hB2 := (h.set o (A o + 1)).set (o + 1) (A (o + 1) + cost)
  have c2 := hB2.cell (o + 2) (by omega)
  rw [upd_other _ _ _ _ (by omega), upd_other _ _ _ _ (by omega)] at c2
  have hB3 := hB2.set (o + 2) (max (A (o + 2)) cost)
  have z0 := h.frozen (5 + o)
  have z1 := (h.set o (A o + 1)).frozen (5 + (o + 1))
  have z2 := hB2.frozen (5 + (o + 2))
  have hN : Near p B w _ := ((((Near.refl p B w).setCell (q := ⟨p, 5 + o, none⟩) (.inl rfl) (.int .i64 (A o + 1))).setCell (q := ⟨p, 5 + (o + 1), none⟩) (.inl rfl) (.int .i64 (A (o + 1) + cost))).setCell (q := ⟨p, 5 + (o + 2), none⟩) (.inl rfl) (.int .i64 (max (A (o + 2)) cost)))
  have e1 : 5 + (o + 1) = 5 + o + 1 := by omega
  have e2 : 5 + (o + 2) = 5 + o + 2 := by omega
  rw [e1] at c1 c2 z1 z2 hB2 hB3 hN
  rw [e2] at c2 z2 hB3 hN
  have C0 := Lib.hid (i64_add ⟨p, 5 + o, none⟩ (A o) 1 (A o + 1) w c0 z0 (IntWalk.i64_in _ (by omega)))
  have C1 := Lib.hid (i64_add ⟨p, 5 + o + 1, none⟩ (A (o + 1)) cost (A (o + 1) + cost) _ c1 z1 (IntWalk.i64_in _ (by omega)))
  have C2 := Lib.hid c2
  have Z2 := Lib.hid z2
  have H3 := Lib.hid hB3
  have HN := Lib.hid hN
  clear c0 c1 c2 z0 z1 z2 hB2 hB3 hN h
  go_enter Tryd.func39, Tryd.ntmps39
  go_wp2_with (first
    | (with_reducible refine C0.out.mono ?_; rintro e w' ⟨rfl, rfl⟩)
    | (with_reducible refine C1.out.mono ?_; rintro e w' ⟨rfl, rfl⟩))
  go_region_with (first
    | (go_at_call 38; (with_reducible refine (i64_load ⟨p, 5 + o + 2, none⟩ (A (o + 2)) _ ?_).mono ?_); exact C2.out; rintro e w' ⟨rfl, rfl⟩)
    | (go_at_call 59; (with_reducible refine (i64_store ⟨p, 5 + o + 2, none⟩ (.int .i64 (A (o + 2))) (max (A (o + 2)) cost) _ ?_ ?_).mono ?_); exact C2.out; exact Z2.out; rintro e w' ⟨rfl, rfl⟩))
  go_end0
  exact ⟨rfl, H3.out, HN.out.drew⟩
end Go.Proofs.YtbpcknjobbjmpaaDoor
