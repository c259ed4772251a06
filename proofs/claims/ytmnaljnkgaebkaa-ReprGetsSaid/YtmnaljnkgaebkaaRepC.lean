/- repr.Check, repr.kind. -/
import Derived.Test.YtmnaljnkgaebkaaRepA
namespace Go.Proofs.Ytmnaljnkgaebkaa
open Go.RowKit
set_option linter.unusedVariables false
set_option linter.unusedSimpArgs false

structure Itm where
  kind : Nat
  index : Int
  name : ByteArray
  value : ByteArray
def Itm.vals (x : Itm) : Array Value := #[.int .u8 (x.kind : Int), .int .i64 x.index, .string x.name, .string x.value]
/-- Has an item what its kind has not? -/
def extraI (x : Itm) : Bool := if litK x.kind then decide (0 < x.index) && !x.name.toList.isEmpty else !x.name.toList.isEmpty || !x.value.toList.isEmpty
/-- The error of an item, by number. -/
def chkI (x : Itm) : Nat :=
  if 4 < x.kind then 11 else if x.index < 0 ∨ 268435455 < x.index ∨ (x.kind = 0 ∧ x.index = 0) then 8 else if extraI x then 4 else if 4096 < x.name.size ∨ 4096 < x.value.size then 5 else 0
set_option maxRecDepth 100000 in
theorem extra_any (k : Nat) (i : Int) (nm vl : ByteArray) (hk : k < 256) (w : World) : Calls Try.prog 80 #[.agg #[.int .u8 (k : Int), .int .i64 i, .string nm, .string vl]] w fun e w' => e = .returned (.bool (extraI ⟨k, i, nm, vl⟩)) ∧ Below w.heap.size w w' := by
  have HT := Lib.hid (fun W => texts_any k hk W)
  have HB := Lib.hid ((Below.refl w.heap.size w).alloc (Nat.le_refl _) (.cells #[.int .u8 (k : Int), .int .i64 i, .string nm, .string vl] 77))
  have HX := Lib.hid (show extraI ⟨k, i, nm, vl⟩ = if litK k then decide (0 < i) && !nm.toList.isEmpty else !nm.toList.isEmpty || !vl.toList.isEmpty from rfl)
  go_enter Try.func80, Try.ntmps80
  go_wp2_with fail
  refine (HT.out _).mono ?_
  rintro e w1 ⟨rfl, hw⟩
  subst hw
  cases hl : litK k
  · rw [hl] at HX
    cases hn : nm.toList.isEmpty
    · rw [hn] at HX
      go_wp2_with fail
      go_ret
      exact ⟨by rw [HX.out]; rfl, HB.out⟩
    · rw [hn] at HX
      go_wp2_with fail
      go_ret
      exact ⟨by rw [HX.out]; rfl, HB.out⟩
  · rw [hl] at HX
    by_cases hi : 0 < i
    · have hb : decide (0 < i) = true := decide_eq_true hi
      rw [hb] at HX
      go_wp2_with fail
      go_ret
      exact ⟨by rw [HX.out]; rfl, HB.out⟩
    · have hb : decide (0 < i) = false := decide_eq_false hi
      rw [hb] at HX
      go_wp2_with fail
      go_ret
      exact ⟨by rw [HX.out]; rfl, HB.out⟩
/-- An item in a block. -/
def IRow (W : World) (q : Nat) (k : Nat) (i : Int) (nm vl : ByteArray) : Prop := W.heap[q]? = some (.cells #[.int .u8 (k : Int), .int .i64 i, .string nm, .string vl] 77 (0, 0))
theorem IRow.c0 {W : World} {q k : Nat} {i : Int} {nm vl : ByteArray} (h : IRow W q k i nm vl) : W.cell? ⟨q, 0, none⟩ = some (.int .u8 (k : Int)) := cell_of_row _ _ _ _ _ _ h
theorem IRow.c1 {W : World} {q k : Nat} {i : Int} {nm vl : ByteArray} (h : IRow W q k i nm vl) : W.cell? ⟨q, 1, none⟩ = some (.int .i64 i) := cell_of_row _ _ _ _ _ _ h
theorem IRow.c2 {W : World} {q k : Nat} {i : Int} {nm vl : ByteArray} (h : IRow W q k i nm vl) : W.cell? ⟨q, 2, none⟩ = some (.string nm) := cell_of_row _ _ _ _ _ _ h
theorem IRow.c3 {W : World} {q k : Nat} {i : Int} {nm vl : ByteArray} (h : IRow W q k i nm vl) : W.cell? ⟨q, 3, none⟩ = some (.string vl) := cell_of_row _ _ _ _ _ _ h
theorem IRow.z {W : World} {q k : Nat} {i : Int} {nm vl : ByteArray} (h : IRow W q k i nm vl) (j : Nat) : W.frozen? ⟨q, j, none⟩ = false := frozen_of_row _ _ _ _ _ h
theorem IRow.lt {W : World} {q k : Nat} {i : Int} {nm vl : ByteArray} (h : IRow W q k i nm vl) : q < W.heap.size := World.block_lt_of_cell? W ⟨q, 0, none⟩ h.c0
theorem IRow.step {W W' : World} {q k : Nat} {i : Int} {nm vl : ByteArray} (h : IRow W q k i nm vl) (hb : Below W.heap.size W W') : IRow W' q k i nm vl := (hb.block q h.lt).trans h
set_option maxRecDepth 100000 in
set_option maxHeartbeats 1000000 in
theorem rcheck_any (k : Nat) (i : Int) (nm vl : ByteArray) (hk : k < 256) (w : World) : Calls Try.prog 45 #[.agg #[.int .u8 (k : Int), .int .i64 i, .string nm, .string vl]] w fun e w' => e = .returned (.int .i64 ((chkI ⟨k, i, nm, vl⟩ : Nat) : Int)) ∧ Below w.heap.size w w' := by
  have HEX := Lib.hid (fun W => extra_any k i nm vl hk W)
  have HB := Lib.hid ((Below.refl w.heap.size w).alloc (Nat.le_refl _) (.cells #[.int .u8 (k : Int), .int .i64 i, .string nm, .string vl] 77))
  have HR := Lib.hid (show IRow _ _ k i nm vl from heap_alloc_new w (.cells #[.int .u8 (k : Int), .int .i64 i, .string nm, .string vl] 77))
  by_cases h4 : 4 < k
  · have HC := Lib.hid (show chkI ⟨k, i, nm, vl⟩ = 11 from if_pos h4)
    have q4 : decide ((4 : Int) < (k : Int)) = true := decide_eq_true (by omega)
    go_enter Try.func45, Try.ntmps45
    go_wp2_with fail
    go_ret
    exact ⟨by rw [HC.out]; rfl, HB.out⟩
  have q4 : decide ((4 : Int) < (k : Int)) = false := decide_eq_false (by omega)
  by_cases hr : i < 0 ∨ 268435455 < i ∨ (k = 0 ∧ i = 0)
  · have HC := Lib.hid (show chkI ⟨k, i, nm, vl⟩ = 8 from (if_neg h4).trans (if_pos hr))
    clear h4
    rcases hr with h | h | ⟨rfl, rfl⟩
    · have q5 : decide (i < 0) = true := decide_eq_true h
      go_enter Try.func45, Try.ntmps45
      go_wp2_with fail
      go_ret
      exact ⟨by rw [HC.out]; rfl, HB.out⟩
    · have q5 : decide (i < 0) = false := decide_eq_false (by omega)
      have q6 : decide ((268435455 : Int) < i) = true := decide_eq_true h
      go_enter Try.func45, Try.ntmps45
      go_wp2_with fail
      go_ret
      exact ⟨by rw [HC.out]; rfl, HB.out⟩
    · go_enter Try.func45, Try.ntmps45
      go_wp2_with fail
      go_ret
      exact ⟨by rw [HC.out]; rfl, HB.out⟩
  have HC := Lib.hid (show chkI ⟨k, i, nm, vl⟩ = if extraI ⟨k, i, nm, vl⟩ then 4 else if 4096 < nm.size ∨ 4096 < vl.size then 5 else 0 from (if_neg h4).trans (if_neg hr))
  have q5 : decide (i < 0) = false := decide_eq_false (by omega)
  have q6 : decide ((268435455 : Int) < i) = false := decide_eq_false (by omega)
  have hki : ((k : Int) == 0) = true ∧ (i == 0) = false ∨ ((k : Int) == 0) = false := by
    by_cases hk0 : k = 0
    · exact .inl ⟨by simp [hk0], by simp; omega⟩
    · exact .inr (by simp; omega)
  clear h4 hr
  have rest : ∀ (P : Prop), P → P := fun _ h => h
  rcases hki with ⟨q7, q8⟩ | q7
  all_goals
    go_enter Try.func45, Try.ntmps45
    go_upto_region 7 with fail
    generalize w.alloc (.cells #[.int .u8 (k : Int), .int .i64 i, .string nm, .string vl] 77) = w1 at HB HR ⊢
    have c0 := HR.out.c0
    have c1 := HR.out.c1
    have c2 := HR.out.c2
    have c3 := HR.out.c3
    go_wp2_with fail
    refine (HEX.out _).mono ?_
    rintro e w2 ⟨rfl, hb⟩
    have HB2 := Lib.hid (HB.out.trans (hb.mono HB.out.size))
    have HR2 := Lib.hid (HR.out.step hb)
    clear hb c0 c1 c2 c3 HB HR
    have c2 := HR2.out.c2
    have c3 := HR2.out.c3
    cases hx : extraI ⟨k, i, nm, vl⟩
    · rw [hx] at HC
      by_cases hn : 4096 < nm.size
      · have q9 : decide ((4096 : Int) < (nm.size : Int)) = true := decide_eq_true (by omega)
        have HC3 := Lib.hid (show chkI ⟨k, i, nm, vl⟩ = 5 from HC.out.trans (by simp [hn]))
        go_wp2_with fail
        go_ret
        exact ⟨by rw [HC3.out]; rfl, HB2.out⟩
      · have q9 : decide ((4096 : Int) < (nm.size : Int)) = false := decide_eq_false (by omega)
        by_cases hv : 4096 < vl.size
        · have q10 : decide ((4096 : Int) < (vl.size : Int)) = true := decide_eq_true (by omega)
          have HC3 := Lib.hid (show chkI ⟨k, i, nm, vl⟩ = 5 from HC.out.trans (by simp [hv]))
          go_wp2_with fail
          go_ret
          exact ⟨by rw [HC3.out]; rfl, HB2.out⟩
        · have q10 : decide ((4096 : Int) < (vl.size : Int)) = false := decide_eq_false (by omega)
          have HC3 := Lib.hid (show chkI ⟨k, i, nm, vl⟩ = 0 from HC.out.trans (by simp; omega))
          go_wp2_with fail
          go_ret
          exact ⟨by rw [HC3.out]; rfl, HB2.out⟩
    · rw [hx] at HC
      have HC3 := Lib.hid (show chkI ⟨k, i, nm, vl⟩ = 4 from HC.out)
      go_wp2_with fail
      go_ret
      exact ⟨by rw [HC3.out]; rfl, HB2.out⟩
#print axioms rcheck_any
end Go.Proofs.Ytmnaljnkgaebkaa
