/- RepG · RepC · RepH: joined by a program, for a claim has at most 60 files. -/
import Derived.Test.YteceinojmdgmeaaC10
import Derived.Test.YteceinojmdgmeaaC12
/- repr.kind. -/

namespace Go.Proofs.Yteceinojmdgmeaa
open Go.RowKit
set_option linter.unusedVariables false
set_option linter.unusedSimpArgs false

/-- The kind that a first byte tells. -/
def kindN (c : Nat) : Nat := if 128 ≤ c then 0 else if 64 ≤ c then 1 else if 32 ≤ c then 4 else if 16 ≤ c then 3 else 2
def kindAt : Nat → Nat
  | 0 => 0
  | 1 => 1
  | 2 => 4
  | _ => 3
theorem kind_le (c : Nat) : kindN c ≤ 4 := by
  unfold kindN
  split
  · omega
  split
  · omega
  split
  · omega
  split <;> omega
theorem kind_and : ∀ c, c < 256 → ∀ i, i < 4 → c < 2 ^ (8 - i) → ((c &&& formF (kindAt i) == 0) = decide (c < 2 ^ (7 - i))) := by decide +kernel
theorem kind_hit : ∀ c, c < 256 → ∀ i, i < 4 → c < 2 ^ (8 - i) → 2 ^ (7 - i) ≤ c → kindN c = kindAt i := by decide +kernel
theorem kind_end : ∀ c, c < 16 → kindN c = 2 := by decide +kernel
def kArr : Array Value := #[.int .u8 0, .int .u8 1, .int .u8 4, .int .u8 3]
theorem kind_index (i : Nat) (h : i < 4) (w : World) : (Instr.index 150 (.agg kArr) (.int .i64 (i : Int))).run Try.prog w = .ok (.int .u8 ((kindAt i : Nat) : Int)) w := by
  have hb : 0 ≤ (i : Int) ∧ (i : Int) < ((4 : Nat) : Int) := by omega
  rcases (show i = 0 ∨ i = 1 ∨ i = 2 ∨ i = 3 from by omega) with rfl | rfl | rfl | rfl <;>
    simp [Instr.index, run_underlying Try.underlying150, asIntOf, part, Try.isAgg5, Try.sizeOf5, go_sem, kArr, kindAt]
theorem form_at (i : Nat) (h : i < 4) : kindAt i ≤ 4 := by
  rcases (show i = 0 ∨ i = 1 ∨ i = 2 ∨ i = 3 from by omega) with rfl | rfl | rfl | rfl <;> decide
set_option maxRecDepth 100000 in
set_option maxHeartbeats 1000000 in
theorem kind_any (c : Nat) (hc : c < 256) (w : World) : Calls Try.prog 88 #[.int .u8 (c : Int)] w fun e w' => e = .returned (.int .u8 ((kindN c : Nat) : Int)) ∧ w' = w := by
  go_enter Try.func88, Try.ntmps88
  go_wp2_with fail
  go_loopw [8] (fun r wr => ∃ i : Nat, r = .int .i64 i ∧ i ≤ 4 ∧ c < 2 ^ (8 - i) ∧ wr = w) (fun r _ => 5 - (intOf r).toNat)
  case atStart => exact ⟨0, rfl, by omega, by simpa using hc, by trivial⟩
  case round =>
    obtain ⟨i, rfl, hi, hlt, rfl⟩ := hrel
    by_cases hi4 : i < 4
    · have q1 : decide ((i : Int) < 4) = true := decide_eq_true (by omega)
      have hidx := fun W => kind_index i hi4 W
      simp only [kArr] at hidx
      have HFO := Lib.hid (fun W => form_any (kindAt i) (form_at i hi4) W)
      have hff := (form_k4 (kindAt i) (form_at i hi4)).1
      have hand := u8_and_nat c (formF (kindAt i)) hc hff
      have hka := kind_and c hc i hi4 hlt
      have HKH := Lib.hid (kind_hit c hc i hi4 hlt)
      have hw1 : IntKind.i64.wrap ((i : Int) + 1) = (i : Int) + 1 := IntWalk.i64_in _ (by omega)
      have HPW := Lib.hid (show 2 ^ (7 - i) = 2 ^ (8 - (i + 1)) from by congr 1; omega)
      generalize formF (kindAt i) = ff at HFO hand hka
      generalize formB (kindAt i) = fb at HFO
      generalize c &&& ff = x at hand hka
      generalize kindAt i = kk at hidx HFO HKH
      by_cases hx : c < 2 ^ (7 - i)
      · have hxz : (x == 0) = true := by rw [hka]; exact decide_eq_true hx
        have hx0 : x = 0 := by simpa using hxz
        subst hx0
        have HLT := Lib.hid (show c < 2 ^ (8 - (i + 1)) from HPW.out ▸ hx)
        clear hka hxz hx hlt hff
        go_wp2_with fail
        refine (HFO.out _).mono ?_
        rintro e w1 ⟨rfl, hw⟩
        subst hw
        go_wp2_with fail
        go_roundw
        case rel => exact ⟨i + 1, by go_num, by omega, HLT.out, by trivial⟩
        case measure => simp [intOf]; omega
      · have hxz : (x == 0) = false := by rw [hka]; exact decide_eq_false hx
        have hxi : ((x : Int) == 0) = false := by
          have : x ≠ 0 := by simpa using hxz
          simp
          omega
        have HK := Lib.hid (HKH.out (by omega))
        clear hka hxz hx hlt hff
        go_wp2_with fail
        refine (HFO.out _).mono ?_
        rintro e w1 ⟨rfl, hw⟩
        subst hw
        go_wp2_with fail
        go_ret
        exact ⟨by rw [HK.out]; rfl, rfl⟩
    · obtain rfl : i = 4 := by omega
      have HK := Lib.hid (kind_end c (by simpa using hlt))
      clear hlt hi4 hi
      go_wp2_with fail
      go_ret
      exact ⟨by rw [HK.out]; rfl, rfl⟩
end Go.Proofs.Yteceinojmdgmeaa


/- repr.Check, repr.kind. -/
namespace Go.Proofs.Yteceinojmdgmeaa
open Go.RowKit
set_option linter.unusedVariables false
set_option linter.unusedSimpArgs false

structure Itm where
  kind : Nat
  index : Int
  name : ByteArray
  value : ByteArray
def Itm.vals (x : Itm) : Array Value := #[.int .u8 (x.kind : Int), .int .i64 x.index, .string x.name, .string x.value]
/-- Has an item what its kind has not? -/
def extraI (x : Itm) : Bool := if litK x.kind then decide (0 < x.index) && !x.name.toList.isEmpty else !x.name.toList.isEmpty || !x.value.toList.isEmpty
/-- The error of an item, by number. -/
def chkI (x : Itm) : Nat :=
  if 4 < x.kind then 11 else if x.index < 0 ∨ 268435455 < x.index ∨ (x.kind = 0 ∧ x.index = 0) then 8 else if extraI x then 4 else if 4096 < x.name.size ∨ 4096 < x.value.size then 5 else 0
set_option maxRecDepth 100000 in
theorem extra_any (k : Nat) (i : Int) (nm vl : ByteArray) (hk : k < 256) (w : World) : Calls Try.prog 64 #[.agg #[.int .u8 (k : Int), .int .i64 i, .string nm, .string vl]] w fun e w' => e = .returned (.bool (extraI ⟨k, i, nm, vl⟩)) ∧ Below w.heap.size w w' := by
  have HT := Lib.hid (fun W => texts_any k hk W)
  have HB := Lib.hid ((Below.refl w.heap.size w).alloc (Nat.le_refl _) (.cells #[.int .u8 (k : Int), .int .i64 i, .string nm, .string vl] 49))
  have HX := Lib.hid (show extraI ⟨k, i, nm, vl⟩ = if litK k then decide (0 < i) && !nm.toList.isEmpty else !nm.toList.isEmpty || !vl.toList.isEmpty from rfl)
  go_enter Try.func64, Try.ntmps64
  go_wp2_with fail
  refine (HT.out _).mono ?_
  rintro e w1 ⟨rfl, hw⟩
  subst hw
  cases hl : litK k
  · rw [hl] at HX
    cases hn : nm.toList.isEmpty
    · rw [hn] at HX
      go_wp2_with fail
      go_ret
      exact ⟨by rw [HX.out]; rfl, HB.out⟩
    · rw [hn] at HX
      go_wp2_with fail
      go_ret
      exact ⟨by rw [HX.out]; rfl, HB.out⟩
  · rw [hl] at HX
    by_cases hi : 0 < i
    · have hb : decide (0 < i) = true := decide_eq_true hi
      rw [hb] at HX
      go_wp2_with fail
      go_ret
      exact ⟨by rw [HX.out]; rfl, HB.out⟩
    · have hb : decide (0 < i) = false := decide_eq_false hi
      rw [hb] at HX
      go_wp2_with fail
      go_ret
      exact ⟨by rw [HX.out]; rfl, HB.out⟩
/-- An item in a block. -/
def IRow (W : World) (q : Nat) (k : Nat) (i : Int) (nm vl : ByteArray) : Prop := W.heap[q]? = some (.cells #[.int .u8 (k : Int), .int .i64 i, .string nm, .string vl] 49 (0, 0))
theorem IRow.c0 {W : World} {q k : Nat} {i : Int} {nm vl : ByteArray} (h : IRow W q k i nm vl) : W.cell? ⟨q, 0, none⟩ = some (.int .u8 (k : Int)) := cell_of_row _ _ _ _ _ _ h
theorem IRow.c1 {W : World} {q k : Nat} {i : Int} {nm vl : ByteArray} (h : IRow W q k i nm vl) : W.cell? ⟨q, 1, none⟩ = some (.int .i64 i) := cell_of_row _ _ _ _ _ _ h
theorem IRow.c2 {W : World} {q k : Nat} {i : Int} {nm vl : ByteArray} (h : IRow W q k i nm vl) : W.cell? ⟨q, 2, none⟩ = some (.string nm) := cell_of_row _ _ _ _ _ _ h
theorem IRow.c3 {W : World} {q k : Nat} {i : Int} {nm vl : ByteArray} (h : IRow W q k i nm vl) : W.cell? ⟨q, 3, none⟩ = some (.string vl) := cell_of_row _ _ _ _ _ _ h
theorem IRow.z {W : World} {q k : Nat} {i : Int} {nm vl : ByteArray} (h : IRow W q k i nm vl) (j : Nat) : W.frozen? ⟨q, j, none⟩ = false := frozen_of_row _ _ _ _ _ h
theorem IRow.lt {W : World} {q k : Nat} {i : Int} {nm vl : ByteArray} (h : IRow W q k i nm vl) : q < W.heap.size := World.block_lt_of_cell? W ⟨q, 0, none⟩ h.c0
theorem IRow.step {W W' : World} {q k : Nat} {i : Int} {nm vl : ByteArray} (h : IRow W q k i nm vl) (hb : Below W.heap.size W W') : IRow W' q k i nm vl := (hb.block q h.lt).trans h
set_option maxRecDepth 100000 in
set_option maxHeartbeats 1000000 in
theorem rcheck_any (k : Nat) (i : Int) (nm vl : ByteArray) (hk : k < 256) (w : World) : Calls Try.prog 38 #[.agg #[.int .u8 (k : Int), .int .i64 i, .string nm, .string vl]] w fun e w' => e = .returned (.int .i64 ((chkI ⟨k, i, nm, vl⟩ : Nat) : Int)) ∧ Below w.heap.size w w' := by
  have HEX := Lib.hid (fun W => extra_any k i nm vl hk W)
  have HB := Lib.hid ((Below.refl w.heap.size w).alloc (Nat.le_refl _) (.cells #[.int .u8 (k : Int), .int .i64 i, .string nm, .string vl] 49))
  have HR := Lib.hid (show IRow _ _ k i nm vl from heap_alloc_new w (.cells #[.int .u8 (k : Int), .int .i64 i, .string nm, .string vl] 49))
  by_cases h4 : 4 < k
  · have HC := Lib.hid (show chkI ⟨k, i, nm, vl⟩ = 11 from if_pos h4)
    have q4 : decide ((4 : Int) < (k : Int)) = true := decide_eq_true (by omega)
    go_enter Try.func38, Try.ntmps38
    go_wp2_with fail
    go_ret
    exact ⟨by rw [HC.out]; rfl, HB.out⟩
  have q4 : decide ((4 : Int) < (k : Int)) = false := decide_eq_false (by omega)
  by_cases hr : i < 0 ∨ 268435455 < i ∨ (k = 0 ∧ i = 0)
  · have HC := Lib.hid (show chkI ⟨k, i, nm, vl⟩ = 8 from (if_neg h4).trans (if_pos hr))
    clear h4
    rcases hr with h | h | ⟨rfl, rfl⟩
    · have q5 : decide (i < 0) = true := decide_eq_true h
      go_enter Try.func38, Try.ntmps38
      go_wp2_with fail
      go_ret
      exact ⟨by rw [HC.out]; rfl, HB.out⟩
    · have q5 : decide (i < 0) = false := decide_eq_false (by omega)
      have q6 : decide ((268435455 : Int) < i) = true := decide_eq_true h
      go_enter Try.func38, Try.ntmps38
      go_wp2_with fail
      go_ret
      exact ⟨by rw [HC.out]; rfl, HB.out⟩
    · go_enter Try.func38, Try.ntmps38
      go_wp2_with fail
      go_ret
      exact ⟨by rw [HC.out]; rfl, HB.out⟩
  have HC := Lib.hid (show chkI ⟨k, i, nm, vl⟩ = if extraI ⟨k, i, nm, vl⟩ then 4 else if 4096 < nm.size ∨ 4096 < vl.size then 5 else 0 from (if_neg h4).trans (if_neg hr))
  have q5 : decide (i < 0) = false := decide_eq_false (by omega)
  have q6 : decide ((268435455 : Int) < i) = false := decide_eq_false (by omega)
  have hki : ((k : Int) == 0) = true ∧ (i == 0) = false ∨ ((k : Int) == 0) = false := by
    by_cases hk0 : k = 0
    · exact .inl ⟨by simp [hk0], by simp; omega⟩
    · exact .inr (by simp; omega)
  clear h4 hr
  have rest : ∀ (P : Prop), P → P := fun _ h => h
  rcases hki with ⟨q7, q8⟩ | q7
  all_goals
    go_enter Try.func38, Try.ntmps38
    go_upto_region 7 with fail
    generalize w.alloc (.cells #[.int .u8 (k : Int), .int .i64 i, .string nm, .string vl] 49) = w1 at HB HR ⊢
    have c0 := HR.out.c0
    have c1 := HR.out.c1
    have c2 := HR.out.c2
    have c3 := HR.out.c3
    go_wp2_with fail
    refine (HEX.out _).mono ?_
    rintro e w2 ⟨rfl, hb⟩
    have HB2 := Lib.hid (HB.out.trans (hb.mono HB.out.size))
    have HR2 := Lib.hid (HR.out.step hb)
    clear hb c0 c1 c2 c3 HB HR
    have c2 := HR2.out.c2
    have c3 := HR2.out.c3
    cases hx : extraI ⟨k, i, nm, vl⟩
    · rw [hx] at HC
      by_cases hn : 4096 < nm.size
      · have q9 : decide ((4096 : Int) < (nm.size : Int)) = true := decide_eq_true (by omega)
        have HC3 := Lib.hid (show chkI ⟨k, i, nm, vl⟩ = 5 from HC.out.trans (by simp [hn]))
        go_wp2_with fail
        go_ret
        exact ⟨by rw [HC3.out]; rfl, HB2.out⟩
      · have q9 : decide ((4096 : Int) < (nm.size : Int)) = false := decide_eq_false (by omega)
        by_cases hv : 4096 < vl.size
        · have q10 : decide ((4096 : Int) < (vl.size : Int)) = true := decide_eq_true (by omega)
          have HC3 := Lib.hid (show chkI ⟨k, i, nm, vl⟩ = 5 from HC.out.trans (by simp [hv]))
          go_wp2_with fail
          go_ret
          exact ⟨by rw [HC3.out]; rfl, HB2.out⟩
        · have q10 : decide ((4096 : Int) < (vl.size : Int)) = false := decide_eq_false (by omega)
          have HC3 := Lib.hid (show chkI ⟨k, i, nm, vl⟩ = 0 from HC.out.trans (by simp; omega))
          go_wp2_with fail
          go_ret
          exact ⟨by rw [HC3.out]; rfl, HB2.out⟩
    · rw [hx] at HC
      have HC3 := Lib.hid (show chkI ⟨k, i, nm, vl⟩ = 4 from HC.out)
      go_wp2_with fail
      go_ret
      exact ⟨by rw [HC3.out]; rfl, HB2.out⟩
end Go.Proofs.Yteceinojmdgmeaa


/- repr.Get: plain. -/
namespace Go.Proofs.Yteceinojmdgmeaa
open Go.RowKit
set_option linter.unusedVariables false
set_option linter.unusedSimpArgs false

def Itm.zero : Itm := ⟨0, 0, ByteArray.empty, ByteArray.empty⟩
def Itm.put (x : Itm) (p : Bool) (s : ByteArray) : Itm := if p then ⟨x.kind, x.index, x.name, s⟩ else ⟨x.kind, x.index, s, x.value⟩
/-- The texts that still come (false: the name; true: the value), one behind the other. -/
def goParts (bs : List Nat) : List Bool → Itm → Nat → Itm × Nat × Nat
  | [], x, at' => (x, at', 0)
  | p :: ps, x, at' => if (textG (bs.drop at')).2.2 ≠ 0 then (Itm.zero, 0, (textG (bs.drop at')).2.2) else goParts bs ps (x.put p (textG (bs.drop at')).1) (at' + (textG (bs.drop at')).2.1)
def partsOf (k n : Nat) : List Bool := if litK k then (if n = 0 then [false, true] else [true]) else []
/-- An item got from bytes: it, how many bytes it has, the error. -/
def itemG (bs : List Nat) : Itm × Nat × Nat := match bs with
  | [] => (Itm.zero, 0, 3)
  | b :: l => if (getN (b :: l) (formB (kindN b))).2.2 ≠ 0 then (Itm.zero, 0, (getN (b :: l) (formB (kindN b))).2.2)
    else if kindN b = 0 ∧ (getN (b :: l) (formB (kindN b))).1 = 0 then (Itm.zero, 0, 4)
    else goParts (b :: l) (partsOf (kindN b) (getN (b :: l) (formB (kindN b))).1) ⟨kindN b, ((getN (b :: l) (formB (kindN b))).1 : Nat), ByteArray.empty, ByteArray.empty⟩ (getN (b :: l) (formB (kindN b))).2.1
theorem textG_ok (bs : List Nat) (h : (textG bs).2.2 = 0) : 1 ≤ (textG bs).2.1 ∧ (textG bs).2.1 ≤ bs.length := by
  have hg := getN_ok bs 7 (by unfold K4; decide)
  unfold textG at h ⊢
  split at h
  · rename_i h1; exact absurd h h1
  rename_i h1
  rw [if_neg h1]
  have h0 := hg (by omega)
  split at h
  · simp at h
  rename_i h2
  rw [if_neg h2]
  split at h
  · simp at h
  rename_i h3
  rw [if_neg h3]
  split at h
  · rename_i h4
    rw [if_pos h4]
    simp only
    omega
  · rename_i h4
    rw [if_neg h4]
    cases hd : decL ((bs.drop (getN bs 7).2.1).take (getN bs 7).1) with
    | none => rw [hd] at h; simp at h
    | some l => simp only; omega
def GetPostI (bs : List Nat) (w : World) (e : Ending) (w' : World) : Prop :=
  e = .returned (.tuple #[.agg #[.int .u8 (((itemG bs).1.kind : Nat) : Int), .int .i64 (itemG bs).1.index, .string (itemG bs).1.name, .string (itemG bs).1.value], .int .i64 ((itemG bs).2.1 : Nat), .int .i64 ((itemG bs).2.2 : Nat)]) ∧ Below w.heap.size w w'
theorem IRow.set1 {W : World} {q k : Nat} {i : Int} {nm vl : ByteArray} (h : IRow W q k i nm vl) (i' : Int) : IRow (W.setCell ⟨q, 1, none⟩ (.int .i64 i')) q k i' nm vl := heap_setCell_same W q 1 _ _ _ h
theorem IRow.set2 {W : World} {q k : Nat} {i : Int} {nm vl : ByteArray} (h : IRow W q k i nm vl) (s : ByteArray) : IRow (W.setCell ⟨q, 2, none⟩ (.string s)) q k i s vl := heap_setCell_same W q 2 _ _ _ h
theorem IRow.set3 {W : World} {q k : Nat} {i : Int} {nm vl : ByteArray} (h : IRow W q k i nm vl) (s : ByteArray) : IRow (W.setCell ⟨q, 3, none⟩ (.string s)) q k i nm s := heap_setCell_same W q 3 _ _ _ h
theorem IRow.other {W : World} {q k : Nat} {i : Int} {nm vl : ByteArray} (h : IRow W q k i nm vl) (p j : Nat) (hp : p ≠ q) (x : Value) : IRow (W.setCell ⟨p, j, none⟩ x) q k i nm vl := (Below.heap_setCell _ _ _ _ (fun e => hp (by simpa using e.symm))).trans h
theorem IRow.alloc {W : World} {q k : Nat} {i : Int} {nm vl : ByteArray} (h : IRow W q k i nm vl) (o : Obj) : IRow (W.alloc o) q k i nm vl := h.step ((Below.refl _ _).alloc (Nat.le_refl _) o)
theorem IRow.new (W : World) (k : Nat) (i : Int) (nm vl : ByteArray) : IRow (W.alloc (.cells #[.int .u8 (k : Int), .int .i64 i, .string nm, .string vl] 49)) W.heap.size k i nm vl := heap_alloc_new W _
end Go.Proofs.Yteceinojmdgmeaa

