/- Waits; parts of a body. -/
import Derived.Test.YtfgicmekkjhlkaaDoorRspD
import Derived.Laws.MakeOwn
namespace Go.Proofs.YtfgicmekkjhlkaaDoor
open Go.RowKit
set_option linter.unusedVariables false
set_option linter.unusedSimpArgs false

/-- Ticks in seconds. -/
def waitI (t p : Int) : Int := if t < 1 ∨ p < 1 then 0 else (t - 1) / p + 1
theorem wait_no {t p : Int} (h : t < 1 ∨ p < 1) : waitI t p = 0 := if_pos h
theorem wait_nat (t p : Nat) (ht : 1 ≤ t) (hp : 1 ≤ p) : waitI t p = (((t - 1) / p + 1 : Nat) : Int) := by
  unfold waitI
  rw [if_neg (by omega), show ((t : Int) - 1) = ((t - 1 : Nat) : Int) from by omega]
  rfl
theorem wait_two (t p : Nat) (ht : 1 ≤ t) (hp : 1 ≤ p) : (t - 1) / p + 1 = t / p + (if t % p = 0 then 0 else 1) := by
  have h1 := Nat.div_add_mod t p
  have h2 := Nat.mod_lt t (show 0 < p from hp)
  by_cases h : t % p = 0
  · rw [if_pos h]
    rw [h] at h1
    have hq : 0 < t / p := by
      rcases Nat.eq_zero_or_pos (t / p) with h0 | h0
      · rw [h0] at h1; simp at h1; omega
      · exact h0
    obtain ⟨q, hq2⟩ : ∃ q, t / p = q + 1 := ⟨t / p - 1, by omega⟩
    have e : t - 1 = p * q + (p - 1) := by rw [hq2, Nat.mul_add] at h1; omega
    rw [e, hq2, Nat.mul_add_div (by omega), Nat.div_eq_of_lt (by omega)]
  · rw [if_neg h]
    have e : t - 1 = p * (t / p) + (t % p - 1) := by omega
    rw [e, Nat.mul_add_div (by omega), Nat.div_eq_of_lt (show t % p - 1 < p by omega)]
set_option maxRecDepth 100000 in
theorem wait_any (t p : Int) (ht : (Lit.int .i64 t).wf = true) (hp : (Lit.int .i64 p).wf = true) (w : World) : Calls Tryd.prog 16 #[.int .i64 t, .int .i64 p] w fun e w' => e = .returned (.int .i64 (waitI t p)) ∧ w' = w := by
  have e1 : IntKind.i64.min = -9223372036854775808 := rfl
  have e2 : IntKind.i64.max = 9223372036854775807 := rfl
  simp only [Lit.wf, Bool.and_eq_true, decide_eq_true_eq, e1, e2] at ht hp
  by_cases h1 : t < 1
  · have q1 : decide (t < 1) = true := decide_eq_true h1
    have HE := Lib.hid (wait_no (p := p) (.inl h1))
    go_enter Tryd.func16, Tryd.ntmps16
    go_wp2_with fail
    go_ret
    exact ⟨by rw [HE.out]; rfl, rfl⟩
  have q1 : decide (t < 1) = false := decide_eq_false h1
  by_cases h2 : p < 1
  · have q2 : decide (p < 1) = true := decide_eq_true h2
    have HE := Lib.hid (wait_no (t := t) (.inr h2))
    go_enter Tryd.func16, Tryd.ntmps16
    go_wp2_with fail
    go_ret
    exact ⟨by rw [HE.out]; rfl, rfl⟩
  have q2 : decide (p < 1) = false := decide_eq_false h2
  obtain ⟨a, rfl⟩ : ∃ a : Nat, t = a := ⟨t.toNat, by omega⟩
  obtain ⟨b, rfl⟩ : ∃ b : Nat, p = b := ⟨p.toNat, by omega⟩
  have HE := Lib.hid (wait_nat a b (by omega) (by omega))
  have hs1 : IntKind.i64.wrap ((a : Int) - 1) = ((a - 1 : Nat) : Int) := by rw [show (a : Int) - 1 = ((a - 1 : Nat) : Int) from by omega]; exact IntWalk.i64_in _ (by omega)
  have hd : ((a - 1 : Nat) : Int) / (b : Int) = (((a - 1) / b : Nat) : Int) := rfl
  have hle : (a - 1) / b ≤ a - 1 := Nat.div_le_self _ _
  generalize (a - 1) / b = q at HE hd hle
  have hs2 : IntKind.i64.wrap (q : Int) = (q : Int) := IntWalk.i64_in _ (by omega)
  have hs3 : IntKind.i64.wrap ((q : Int) + 1) = ((q + 1 : Nat) : Int) := IntWalk.i64_in _ (by omega)
  have hb0 : ((b : Int) == 0) = false := by simp; omega
  go_enter Tryd.func16, Tryd.ntmps16
  go_wp2_with fail
  go_ret
  exact ⟨by rw [HE.out]; rfl, rfl⟩
set_option maxRecDepth 100000 in
theorem dwait_any (t p : Int) (ht : (Lit.int .i64 t).wf = true) (hp : (Lit.int .i64 p).wf = true) (w : World) : Calls Tryd.prog 17 #[.int .i64 t, .int .i64 p] w fun e w' => e = .returned (.int .i64 (waitI t p)) ∧ w' = w := by
  have e1 : IntKind.i64.min = -9223372036854775808 := rfl
  have e2 : IntKind.i64.max = 9223372036854775807 := rfl
  simp only [Lit.wf, Bool.and_eq_true, decide_eq_true_eq, e1, e2] at ht hp
  by_cases h1 : t < 1
  · have q1 : decide (t < 1) = true := decide_eq_true h1
    have HE := Lib.hid (wait_no (p := p) (.inl h1))
    go_enter Tryd.func17, Tryd.ntmps17
    go_wp2_with fail
    go_ret
    exact ⟨by rw [HE.out]; rfl, rfl⟩
  have q1 : decide (t < 1) = false := decide_eq_false h1
  by_cases h2 : p < 1
  · have q2 : decide (p < 1) = true := decide_eq_true h2
    have HE := Lib.hid (wait_no (t := t) (.inr h2))
    go_enter Tryd.func17, Tryd.ntmps17
    go_wp2_with fail
    go_ret
    exact ⟨by rw [HE.out]; rfl, rfl⟩
  have q2 : decide (p < 1) = false := decide_eq_false h2
  obtain ⟨a, rfl⟩ : ∃ a : Nat, t = a := ⟨t.toNat, by omega⟩
  obtain ⟨b, rfl⟩ : ∃ b : Nat, p = b := ⟨p.toNat, by omega⟩
  have HE := Lib.hid ((wait_nat a b (by omega) (by omega)).trans (by rw [wait_two a b (by omega) (by omega)]))
  have hd : (a : Int) / (b : Int) = ((a / b : Nat) : Int) := rfl
  have hm : (a : Int) % (b : Int) = ((a % b : Nat) : Int) := rfl
  have hle : a / b ≤ a := Nat.div_le_self _ _
  have hml : a % b ≤ a := Nat.mod_le _ _
  have hx : a % b ≠ 0 → a / b < a := fun h => by
    have h1 := Nat.div_add_mod a b
    have : a / b * 1 ≤ a / b * b := Nat.mul_le_mul_left _ (by omega)
    rw [Nat.mul_comm b] at h1
    omega
  generalize a / b = q at HE hd hle hx
  generalize a % b = r at HE hm hml hx
  have hs2 : IntKind.i64.wrap (q : Int) = (q : Int) := IntWalk.i64_in _ (by omega)
  have hs4 : IntKind.i64.wrap (r : Int) = (r : Int) := IntWalk.i64_in _ (by omega)
  have hb0 : ((b : Int) == 0) = false := by simp; omega
  by_cases hr : r = 0
  · subst hr
    have hr0 : (((0 : Nat) : Int) != 0) = false := rfl
    go_enter Tryd.func17, Tryd.ntmps17
    go_wp2_with fail
    go_ret
    exact ⟨by rw [HE.out]; rfl, rfl⟩
  · have hr0 : ((r : Int) != 0) = true := by simp; omega
    have hlt := hx hr
    have hs3 : IntKind.i64.wrap ((q : Int) + 1) = ((q + 1 : Nat) : Int) := IntWalk.i64_in _ (by omega)
    rw [if_neg hr] at HE
    clear hx
    go_enter Tryd.func17, Tryd.ntmps17
    go_wp2_with fail
    go_ret
    exact ⟨by rw [HE.out]; rfl, rfl⟩
/-- A part of a body. -/
def bodyL (f n : Nat) : List Nat := (List.range n).map fun i => 97 + (f + i) % 26
def bodyI (f n : Int) : List Nat := if n < 1 ∨ 65536 < n ∨ f < 0 then [] else bodyL f.toNat n.toNat
theorem bodyL_len (f n : Nat) : (bodyL f n).length = n := by simp [bodyL]
theorem bodyL_get (f n i : Nat) (h : i < n) : (bodyL f n)[i]? = some (97 + (f + i) % 26) := by simp [bodyL, h]
theorem bodyL_byte (f n : Nat) : ∀ x ∈ bodyL f n, x < 256 := by
  intro x hx
  obtain ⟨i, _, rfl⟩ := List.mem_map.1 hx
  omega
def BodyPost (f n : Int) (w : World) (e : Ending) (w' : World) : Prop := ∃ oa cap, e = .returned (.slice oa (bodyI f n).length cap) ∧ BytesN w' oa (bodyI f n) ∧ (bodyI f n).length ≤ cap ∧ (∀ a, oa = some a → w.heap.size ≤ a.block ∧ a.block < w'.heap.size) ∧ Below w.heap.size w w'
set_option maxRecDepth 100000 in
set_option maxHeartbeats 1000000 in
theorem body_any (f n : Int) (w : World) : Calls Tryd.prog 22 #[.int .i64 f, .int .i64 n] w (BodyPost f n w) := by
  by_cases h : n < 1 ∨ 65536 < n ∨ f < 0
  · have HE := Lib.hid (show bodyI f n = [] from if_pos h)
    have fin : BodyPost f n w (.returned (.slice none 0 0)) w := ⟨none, 0, by rw [HE.out]; rfl, (fun i hi => by rw [HE.out] at hi; simp at hi), by rw [HE.out]; simp, (fun a ha => by cases ha), Below.refl _ _⟩
    have FIN := Lib.hid fin
    clear fin
    by_cases h1 : n < 1
    · have q1 : decide (n < 1) = true := decide_eq_true h1
      go_enter Tryd.func22, Tryd.ntmps22
      go_wp2_with fail
      go_ret
      exact FIN.out
    · have q1 : decide (n < 1) = false := decide_eq_false h1
      by_cases h2 : 65536 < n
      · have q2 : decide (65536 < n) = true := decide_eq_true h2
        go_enter Tryd.func22, Tryd.ntmps22
        go_wp2_with fail
        go_ret
        exact FIN.out
      · have q2 : decide (65536 < n) = false := decide_eq_false h2
        have q3 : decide (f < 0) = true := decide_eq_true (by omega)
        go_enter Tryd.func22, Tryd.ntmps22
        go_wp2_with fail
        go_ret
        exact FIN.out
  · have HE := Lib.hid (show bodyI f n = bodyL f.toNat n.toNat from if_neg h)
    obtain ⟨a, rfl⟩ : ∃ a : Nat, n = a := ⟨n.toNat, by omega⟩
    obtain ⟨b, rfl⟩ : ∃ b : Nat, f = b := ⟨f.toNat, by omega⟩
    rw [Int.toNat_natCast, Int.toNat_natCast] at HE
    have q1 : decide ((a : Int) < 1) = false := decide_eq_false (by omega)
    have q2 : decide ((65536 : Int) < (a : Int)) = false := decide_eq_false (by omega)
    have q3 : decide ((b : Int) < 0) = false := decide_eq_false (by omega)
    obtain ⟨i0, hi0, hz0, hz1, hz2⟩ := info_parts u8_info
    have hmk := run_make (P := Tryd.prog) w 42 5 i0 _ Tryd.underlying42 hi0 hz0 .i64 .i64 (a : Int) (a : Int) (by omega) (Int.le_refl _) (by rw [hz2]; omega) (by omega)
    rw [Int.toNat_natCast, hz1, Nat.mul_one] at hmk
    have hms := size_madeCells (Value.int IntKind.u8 0).cells a
    generalize madeCells (Value.int IntKind.u8 0).cells a = arr at hmk hms
    have HMS := Lib.hid hms
    have HR0 := Lib.hid (show (w.alloc (.cells arr 5)).heap[w.heap.size]? = some (.cells arr 5 (0, 0)) from heap_alloc_new w _)
    have HB0 := Lib.hid ((Below.refl w.heap.size w).alloc (Nat.le_refl _) (.cells arr 5))
    have HA := Lib.hid (show 1 ≤ a ∧ a ≤ 65536 from by omega)
    have ha := HA.out
    clear hms hi0 hz0 hz1 hz2 h
    go_enter Tryd.func22, Tryd.ntmps22
    go_wp2_with fail
    generalize hg0 : w.heap.size = g at HR0 ⊢
    generalize w.alloc (.cells arr 5) = w1 at HR0 HB0 ⊢
    have HG := Lib.hid hg0
    clear hmk hg0
    go_loopw [6, 23] (fun tt ii wr => ∃ (j : Nat) (ar : Array Value), tt = .int .i64 (((b + j) % 26 : Nat) : Int) ∧ ii = .int .i64 j ∧ j ≤ a ∧ wr.heap[g]? = some (.cells ar 5 (0, 0)) ∧ ar.size = a ∧ (∀ k, k < j → ar[k]? = some (.int .u8 ((97 + (b + k) % 26 : Nat) : Int))) ∧ Below w.heap.size w wr) (fun _ ii _ => a - (intOf ii).toNat)
    case atStart => exact ⟨0, arr, by simp, rfl, Nat.zero_le _, HR0.out, HMS.out, fun k hk => by omega, HB0.out⟩
    case round =>
      obtain ⟨j, ar, rfl, rfl, hj, hrow, has, hget, hb⟩ := hrel
      have HRW := Lib.hid hrow
      have HAS := Lib.hid has
      have HGE := Lib.hid hget
      have HBW := Lib.hid hb
      clear hrow hget hb
      by_cases hlt : j < a
      · have q4 : decide ((j : Int) < (a : Int)) = true := decide_eq_true (by omega)
        have q5 : (j : Int) < (a : Int) := by omega
        have hy : (b + j) % 26 < 26 := Nat.mod_lt _ (by decide)
        have hnx : ((b + j) % 26 + 1) % 26 = (b + (j + 1)) % 26 := by omega
        generalize hyv : (b + j) % 26 = y at hy hnx
        have hw1 : IntKind.u8.wrap (y : Int) = (y : Int) := IntWalk.u8_in _ (by omega)
        have hw2 : IntKind.u8.wrap (97 + (y : Int)) = ((97 + y : Nat) : Int) := IntWalk.u8_in _ (by omega)
        have hw3 : IntKind.i64.wrap ((y : Int) + 1) = ((y + 1 : Nat) : Int) := IntWalk.i64_in _ (by omega)
        have hm : ((y : Int) + 1) % 26 = (((y + 1) % 26 : Nat) : Int) := rfl
        have hw4 : IntKind.i64.wrap ((((y + 1) % 26 : Nat)) : Int) = (((y + 1) % 26 : Nat) : Int) := IntWalk.i64_in _ (by omega)
        have hw5 : IntKind.i64.wrap ((j : Int) + 1) = (j : Int) + 1 := IntWalk.i64_in _ (by omega)
        obtain ⟨old, hold⟩ : ∃ old, ar[j]? = some old := ⟨ar[j]'(by omega), Array.getElem?_eq_getElem _⟩
        have hc := (cell_of_row wr g j ar _ _ HRW.out).trans hold
        have hz := frozen_of_row wr g j ar _ HRW.out
        have HRN := Lib.hid (heap_setCell_same wr g j ar _ (.int .u8 ((97 + y : Nat) : Int)) HRW.out)
        have HBN := Lib.hid (HBW.out.setCell (show w.heap.size ≤ (⟨g, j, none⟩ : Addr).block from Nat.le_of_eq HG.out) (.int .u8 ((97 + y : Nat) : Int)))
        have HSN := Lib.hid (show (ar.setIfInBounds j (.int .u8 ((97 + y : Nat) : Int))).size = a from by rw [Array.size_setIfInBounds]; exact HAS.out)
        have HGN := Lib.hid (show ∀ k, k < j + 1 → (ar.setIfInBounds j (.int .u8 ((97 + y : Nat) : Int)))[k]? = some (.int .u8 ((97 + (b + k) % 26 : Nat) : Int)) from fun k hk => by
          rw [Array.getElem?_setIfInBounds]
          by_cases hkj : j = k
          · subst hkj
            rw [if_pos rfl, if_pos (by rw [HAS.out]; exact hlt), hyv]
          · rw [if_neg hkj]
            exact HGE.out k (by omega))
        have HNX := Lib.hid hnx
        generalize (y + 1) % 26 = y2 at hm hw4 HNX
        clear hnx hyv hold has
        go_wp2_with fail
        refine ⟨⟨j + 1, _, by rw [hm, HNX.out], rfl, hlt, HRN.out, HSN.out, HGN.out, HBN.out⟩, ?_⟩
        simp [intOf]
        omega
      · have q4 : decide ((j : Int) < (a : Int)) = false := decide_eq_false (by omega)
        have q5 : ¬ ((j : Int) < (a : Int)) := by omega
        obtain rfl : j = a := by omega
        go_wp2_with fail
        go_ret
        refine ⟨_, _, by rw [HE.out, bodyL_len]; rfl, ?_, by rw [HE.out, bodyL_len]; exact Nat.le_refl _, fun x hx => ?_, HBW.out⟩
        · rw [HE.out]
          intro k hk
          rw [bodyL_len] at hk
          refine ⟨_, rfl, ?_⟩
          rw [show ((⟨g, 0, none⟩ : Addr).add k) = ⟨g, k, none⟩ from by rw [Addr.add_lit, Nat.zero_add]]
          rw [cell_of_row wr g k ar _ _ HRW.out, HGE.out k hk, List.getD_eq_getElem?_getD, bodyL_get b j k hk]
          rfl
        · cases hx
          refine ⟨Nat.le_of_eq HG.out, ?_⟩
          rcases Nat.lt_or_ge g wr.heap.size with h | h
          · exact h
          · have := HRW.out; rw [Array.getElem?_eq_none h] at this; cases this
theorem bodyL_succ (f n : Nat) : bodyL f (n + 1) = bodyL f n ++ [97 + (f + n) % 26] := by unfold bodyL; rw [List.range_succ]; simp
set_option maxRecDepth 100000 in
set_option maxHeartbeats 1000000 in
theorem dbody_any (f n : Int) (hn : n ≤ 65536) (w : World) : Calls Tryd.prog 23 #[.int .i64 f, .int .i64 n] w (BodyPost f n w) := by
  obtain ⟨i0, hi0, hz0, hz1, hz2⟩ := info_parts u8_info
  have HI := Lib.hid hi0
  have HZ0 := Lib.hid hz0
  have HZ1 := Lib.hid hz1
  have HZ2 := Lib.hid hz2
  clear hi0 hz0 hz1 hz2
  have q2 : decide (n ≤ 65536) = true := decide_eq_true hn
  by_cases h : n < 1 ∨ f < 0
  · have HE := Lib.hid (show bodyI f n = [] from if_pos (by omega))
    have fin : ∀ W, Below w.heap.size w W → BodyPost f n w (.returned (.slice none 0 0)) W := fun W hW => ⟨none, 0, by rw [HE.out]; rfl, (fun i hi => by rw [HE.out] at hi; simp at hi), by rw [HE.out]; simp, (fun a ha => by cases ha), hW⟩
    have FIN := Lib.hid fin
    clear fin
    by_cases h1 : n < 1
    · have q1 : decide ((0 : Int) < n) = false := decide_eq_false (by omega)
      have q4 : ¬ ((0 : Int) < n) := by omega
      go_enter Tryd.func23, Tryd.ntmps23
      go_wp2_with fail
      go_loopw [5, 6] (fun oo ii wr => oo = .slice none 0 0 ∧ ii = .int .i64 0 ∧ wr = w) (fun _ _ _ => 0)
      case atStart => exact ⟨rfl, rfl, rfl⟩
      case round =>
        obtain ⟨rfl, rfl, rfl⟩ := hrel
        go_wp2_with fail
        go_ret
        exact FIN.out _ (Below.refl _ _)
    · have q1 : decide ((0 : Int) < n) = true := decide_eq_true (by omega)
      have q4 : (0 : Int) < n := by omega
      have q3 : decide ((0 : Int) ≤ f) = false := decide_eq_false (by omega)
      have q5 : ¬ ((0 : Int) ≤ f) := by omega
      go_enter Tryd.func23, Tryd.ntmps23
      go_wp2_with fail
      go_loopw [5, 6] (fun oo ii wr => oo = .slice none 0 0 ∧ ii = .int .i64 0 ∧ wr = w) (fun _ _ _ => 0)
      case atStart => exact ⟨rfl, rfl, rfl⟩
      case round =>
        obtain ⟨rfl, rfl, rfl⟩ := hrel
        go_wp2_with fail
        go_ret
        exact FIN.out _ (Below.refl _ _)
  · have HE := Lib.hid (show bodyI f n = bodyL f.toNat n.toNat from if_neg (by omega))
    obtain ⟨a, rfl⟩ : ∃ a : Nat, n = a := ⟨n.toNat, by omega⟩
    obtain ⟨b, rfl⟩ : ∃ b : Nat, f = b := ⟨f.toNat, by omega⟩
    rw [Int.toNat_natCast, Int.toNat_natCast] at HE
    have q3 : decide ((0 : Int) ≤ (b : Int)) = true := decide_eq_true (by omega)
    clear h
    go_enter Tryd.func23, Tryd.ntmps23
    go_wp2_with fail
    have q6 : (0 : Int) ≤ (b : Int) := by omega
    go_loopw [5, 6] (fun oo ii wr => ∃ (j : Nat) (vv : Value), oo = vv ∧ ii = .int .i64 j ∧ j ≤ a ∧ OwnB wr w.heap.size vv (bodyL b j) ∧ Below w.heap.size w wr) (fun _ ii _ => a - (intOf ii).toNat)
    case atStart => exact ⟨0, _, rfl, rfl, Nat.zero_le _, World.ownsRow_nil _ _ _ _, Below.refl _ _⟩
    case round =>
      obtain ⟨j, vv, hvv, rfl, hj, hown, hb⟩ := hrel
      obtain rfl := hvv.symm
      have HO := Lib.hid hown
      have HB := Lib.hid hb
      clear hvv hown hb
      by_cases hlt : j < a
      · have q4 : decide ((j : Int) < (a : Int)) = true := decide_eq_true (by omega)
        have q5 : (j : Int) < (a : Int) := by omega
        have hm1 : (b : Int) % 26 = ((b % 26 : Nat) : Int) := rfl
        have hm2 : (j : Int) % 26 = ((j % 26 : Nat) : Int) := rfl
        have hx : (b % 26 + j % 26) % 26 = (b + j) % 26 := by omega
        have hy1 : b % 26 < 26 := Nat.mod_lt _ (by decide)
        have hy2 : j % 26 < 26 := Nat.mod_lt _ (by decide)
        have hz : (b + j) % 26 < 26 := Nat.mod_lt _ (by decide)
        have HBS := Lib.hid (bodyL_succ b j)
        generalize b % 26 = x1 at hm1 hx hy1
        generalize j % 26 = x2 at hm2 hx hy2
        generalize hzz : (b + j) % 26 = z at hz hx HBS
        have hw1 : IntKind.i64.wrap (x1 : Int) = (x1 : Int) := IntWalk.i64_in _ (by omega)
        have hw2 : IntKind.i64.wrap (x2 : Int) = (x2 : Int) := IntWalk.i64_in _ (by omega)
        have hw3 : IntKind.i64.wrap ((x1 : Int) + (x2 : Int)) = ((x1 + x2 : Nat) : Int) := IntWalk.i64_in _ (by omega)
        have hm3 : ((x1 : Int) + (x2 : Int)) % 26 = (z : Int) := by rw [show ((x1 : Int) + (x2 : Int)) % 26 = (((x1 + x2) % 26 : Nat) : Int) from rfl, hx]
        have hw4 : IntKind.i64.wrap (z : Int) = (z : Int) := IntWalk.i64_in _ (by omega)
        have hw5 : IntKind.i64.wrap (97 + (z : Int)) = ((97 + z : Nat) : Int) := IntWalk.i64_in _ (by omega)
        have hw6 : IntKind.u8.wrap ((97 + z : Nat) : Int) = ((97 + z : Nat) : Int) := IntWalk.u8_in _ (by omega)
        have hw7 : IntKind.u8.wrap (97 + (z : Int)) = ((97 + z : Nat) : Int) := IntWalk.u8_in _ (by omega)
        have hw8 : IntKind.i64.wrap ((j : Int) + 1) = (j : Int) + 1 := IntWalk.i64_in _ (by omega)
        clear hx hzz
        have hc1 : ∀ u ∈ [Value.int .u8 (97 + (z : Int))], u.oneCell' = true := by intro u hu; simp at hu; subst hu; rfl
        have hbl := bodyL_len b j
        have hc2 : (bodyL b j).length + 1 ≤ maxLen := by rw [hbl]; unfold maxLen; omega
        have hc3 : ((bodyL b j).length + 1) * 1 ≤ 140737488355328 := by rw [hbl]; omega
        have HC4 := Lib.hid (HB.out.alloc HB.out.size (.cells #[.int .u8 (97 + (z : Int))] 5)).size
        clear hbl
        go_wp2_with (at_builtin; refine wpList_append_own_at _ rfl _ _ 42 rfl w.heap.size 5 i0 _ 1 1 Tryd.underlying42 HI.out HZ0.out HZ1.out HZ2.out rfl (by omega) vv _ _ rfl (HO.out.alloc _) ⟨wr.heap.size, 0, none⟩ 1 1 [Value.int .u8 (97 + (z : Int))] rfl rfl (cells_new wr [Value.int .u8 (97 + (z : Int))] _) hc1 hc2 hc3 HC4.out ?_; intro v3 w4 hown3 hg3 _ _; clear hc1 hc2 hc3)
        have B3 := Lib.hid ((HB.out.alloc HB.out.size _).grown hg3 HC4.out (fun q hq => (HO.out.lt q hq).1))
        have HO3 := Lib.hid (show OwnB w4 w.heap.size v3 (bodyL b (j + 1)) from by rw [HBS.out]; exact ownB_snoc hown3)
        clear hg3 hown3
        go_wp2_with fail
        go_roundw
        case rel => exact ⟨j + 1, v3, rfl, by go_num, by omega, HO3.out, B3.out⟩
        case measure => simp [intOf]; omega
      · have q4 : decide ((j : Int) < (a : Int)) = false := decide_eq_false (by omega)
        have q5 : ¬ ((j : Int) < (a : Int)) := by omega
        obtain rfl : j = a := by omega
        obtain ⟨oa, cap, hv, hby, hbl⟩ := ownB_bytes HO.out
        subst hv
        go_wp2_with fail
        go_ret
        refine ⟨oa, cap, by rw [HE.out]; rfl, by rw [HE.out]; exact hby, ?_, hbl, HB.out⟩
        rw [HE.out]
        rcases HO.out.2 with ⟨hv, h0⟩ | ⟨g, cp, cur, hv, _, _, h1, _⟩
        · rw [h0]; exact Nat.zero_le _
        · obtain ⟨_, _, rfl⟩ := Value.slice.inj hv
          exact h1
#print axioms body_any
#print axioms dbody_any
end Go.Proofs.YtfgicmekkjhlkaaDoor
