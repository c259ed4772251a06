/- A fate is counted. -/
import Derived.Test.YtbpcknjobbjmpaaDoorStaD
namespace Go.Proofs.YtbpcknjobbjmpaaDoor
open Go.RowKit
set_option linter.unusedVariables false
set_option linter.unusedSimpArgs false

def Fat.val (f : Fat) : Value := .agg #[.int .i64 f.c, .int .i64 f.s, .int .i64 f.k, .int .i64 f.n]
def errC (f : Fat) : Int := if 0 ≤ f.k ∧ f.k < 5 then (if 0 ≤ f.n ∧ f.n ≤ 2047 then 0 else 8) else 11
def CountPost (p : Nat) (f : Fat) (d m : Int) (nv : Value) (bt : Int) (A : Nat → Int) (w : World) (e : Ending) (w' : World) : Prop :=
  e = .returned (.int .i64 (errC f)) ∧ Brd p w' d m nv bt (if f.ok then countA A f.k.toNat f.n else A) ∧ Near p w.heap.size w w'
theorem count_none (f : Fat) (w : World) :
    Calls Tryd.prog 10 #[.pointer none, f.val] w fun e w' => e = .returned (.int .i64 1) ∧ Below w.heap.size w w' := by
  unfold Fat.val
  have HN := Lib.hid ((Below.refl w.heap.size w).alloc (Nat.le_refl _) (.cells #[.int .i64 f.c, .int .i64 f.s, .int .i64 f.k, .int .i64 f.n] 29))
  go_enter Tryd.func10, Tryd.ntmps10
  go_wp2_with fail
  go_ret
  exact ⟨rfl, HN.out⟩
set_option maxRecDepth 100000 in
set_option maxHeartbeats 20000000 in
theorem count_any (p : Nat) (f : Fat) (d m : Int) (nv : Value) (bt : Int) (A : Nat → Int) (w : World) (h : Brd p w d m nv bt A) (hA : ∀ i, 0 ≤ A i ∧ A i ≤ 300000) :
    Calls Tryd.prog 10 #[.pointer (some ⟨p, 0, none⟩), f.val] w (CountPost p f d m nv bt A w) := by
  have CI := Lib.hid (in_any f.k)
  have hplt := h.lt
  have HN0 := (Near.refl p w.heap.size w).alloc (Nat.le_refl _) (.cells #[.int .i64 f.c, .int .i64 f.s, .int .i64 f.k, .int .i64 f.n] 29)
  have HB0 := h.below hplt ((Below.refl w.heap.size w).alloc (Nat.le_refl _) (.cells #[.int .i64 f.c, .int .i64 f.s, .int .i64 f.k, .int .i64 f.n] 29))
  have HR0 := heap_alloc_new w (.cells #[.int .i64 f.c, .int .i64 f.s, .int .i64 f.k, .int .i64 f.n] 29)
  have HS0 : (w.alloc (.cells #[.int .i64 f.c, .int .i64 f.s, .int .i64 f.k, .int .i64 f.n] 29)).heap.size = w.heap.size + 1 := by simp
  by_cases hk : 0 ≤ f.k ∧ f.k < 5
  · have hq : decide (0 ≤ f.k ∧ f.k < 5) = true := decide_eq_true hk
    by_cases hn : 0 ≤ f.n ∧ f.n ≤ 2047
    · have hok : f.ok = true := (f.ok_iff).2 ⟨hk.1, hk.2, hn.1, hn.2⟩
      have he : errC f = 0 := by unfold errC; rw [if_pos hk, if_pos hn]
      unfold CountPost
      rw [he, if_pos hok]
      clear he hok
      unfold Fat.val
      have q1 : decide (f.n < 0) = false := decide_eq_false (by omega)
      have q2 : decide ((2047 : Int) < f.n) = false := decide_eq_false (by omega)
      have hsz : (Lit.int .i64 f.n).wf = true := by
        have e1 : IntKind.i64.min = -9223372036854775808 := rfl
        have e2 : IntKind.i64.max = 9223372036854775807 := rfl
        simp only [Lit.wf, Bool.and_eq_true, decide_eq_true_eq, e1, e2]; omega
      have CZ := Lib.hid (size_any f.n hsz)
      have hz12 := szI_lt f.n
      obtain ⟨kn, hkn⟩ : ∃ kn : Nat, f.k = kn := ⟨f.k.toNat, by omega⟩
      have hkn5 : kn < 5 := by omega
      have hk5 : (kn : Int) < 5 := by omega
      rw [hkn] at HN0 HB0 HR0 HS0 CI hq ⊢
      rw [Int.toNat_natCast]
      generalize f.n = n at *
      generalize f.c = fc at *
      generalize f.s = fs at *
      unfold countA
      generalize szI n = z at *
      have hz12' : (z : Int) < 12 := by omega
      have b1 := hA 1
      have hA' : ∀ i, 0 ≤ A i ∧ A i ≤ 1000000 := fun i => by have := hA i; omega
      have hsum : IntKind.i64.wrap (A 1 + n) = A 1 + n := IntWalk.i64_in _ (by omega)
      have q3 : decide ((1099511627776 : Int) < A 1 + n) = false := decide_eq_false (by omega)
      have HF : ∀ W, Near p (w.heap.size + 1) (w.alloc (.cells #[.int .i64 fc, .int .i64 fs, .int .i64 kn, .int .i64 n] 29)) W → Near p (w.heap.size + 1) (w.alloc (.cells #[.int .i64 fc, .int .i64 fs, .int .i64 kn, .int .i64 n] 29)) W ∧ W.cell? ⟨w.heap.size, 2, none⟩ = some (.int .i64 kn) ∧ W.cell? ⟨w.heap.size, 3, none⟩ = some (.int .i64 n) := fun W hW => by
        have hr := (hW.block w.heap.size (by omega) (by omega)).trans HR0
        refine ⟨hW, ?_, ?_⟩ <;> (rw [cell_of_row _ _ _ _ _ _ hr]; rfl)
      have HH := Lib.hid HF
      have HI := Lib.hid HB0
      have HM := Lib.hid HN0
      clear HF HB0 HN0 HR0 h
      go_enter Tryd.func10, Tryd.ntmps10
      go_wp2_with (first
        | (go_at_call 37; refine (CI.out _).mono ?_; rintro e w' ⟨rfl, hw⟩; subst hw; rw [hq]))
      generalize hW0 : w.alloc (.cells #[.int .i64 fc, .int .i64 fs, .int .i64 kn, .int .i64 n] 29) = W0 at *
      have HN := Lib.hid (HH.out _ (Near.refl p (w.heap.size + 1) W0).drew)
      have HI1 := Lib.hid (show Brd p W0.drew d m nv bt A from HI.out)
      clear HI
      go_region_held (fun W => Near p (w.heap.size + 1) W0 W ∧ W.cell? ⟨w.heap.size, 2, none⟩ = some (.int .i64 kn) ∧ W.cell? ⟨w.heap.size, 3, none⟩ = some (.int .i64 n)) (first | exact HN.out) (first
        | (go_at_call 38; refine (i64_load _ (A 1) _ (HI1.out.cell 1 (by omega))).mono ?_; rintro e w' ⟨rfl, rfl⟩))
      go_wp2_with fail
      have HN2 := Lib.hid (HH.out _ HN.out.1.drew)
      have HI2 := Lib.hid (show Brd p W0.drew.drew d m nv bt A from HI1.out)
      clear HN HI1
      generalize W0.drew = W1 at HN2 HI2 ⊢
      go_region_held (fun W => Near p (w.heap.size + 1) W0 W ∧ W.cell? ⟨w.heap.size, 2, none⟩ = some (.int .i64 kn) ∧ W.cell? ⟨w.heap.size, 3, none⟩ = some (.int .i64 n)) (first | exact HN2.out | exact HN3.out) (first
        | (go_at_call 39; refine (talAdd_any p _ 0 (by omega) (by omega) n d m nv bt A (w.heap.size + 1) _ HI2.out (hA' _) (hA' _) (hA' _) hn).mono ?_; rintro e w1 ⟨rfl, hB1, hN1⟩; have HN3 := Lib.hid (HH.out _ (HN2.out.1.trans hN1)); have HI3 := Lib.hid hB1; clear hB1 hN1 HI2 HN2))
      go_wp2_with fail
      have HN4 := Lib.hid (HH.out _ HN3.out.1.drew)
      have HI4 := Lib.hid (show Brd p w1.drew d m nv bt (add3 A 0 n) from HI3.out)
      clear HN3 HI3
      have hA1 : ∀ i, 0 ≤ add3 A 0 n i ∧ add3 A 0 n i ≤ 1000000 := fun i => by
        have h1 := hA i
        have h2 := hA 0
        have h3 := hA 1
        have h4 := hA 2
        unfold add3 upd
        simp only [Nat.zero_add]
        repeat' split
        all_goals omega
      have e18 : (add3 (add3 A 0 n) (3 + 3 * kn) n) (18 + z) = A (18 + z) := by
        unfold add3
        rw [upd_other _ _ _ _ (by omega), upd_other _ _ _ _ (by omega), upd_other _ _ _ _ (by omega), upd_other _ _ _ _ (by omega), upd_other _ _ _ _ (by omega), upd_other _ _ _ _ (by omega)]
      have b18 := hA (18 + z)
      generalize hG : add3 A 0 n = A1 at HI4 hA1 e18
      go_region_held (fun W => Near p (w.heap.size + 1) W0 W ∧ W.cell? ⟨w.heap.size, 2, none⟩ = some (.int .i64 kn) ∧ W.cell? ⟨w.heap.size, 3, none⟩ = some (.int .i64 n)) (first | exact HN4.out | exact HN5.out) (first
        | (go_at_call 39; refine (talAdd_any p _ (3 + 3 * kn) (by omega) (by omega) n d m nv bt A1 (w.heap.size + 1) _ HI4.out (hA1 _) (hA1 _) (hA1 _) hn).mono ?_; rintro e w2 ⟨rfl, hB1, hN1⟩; have HN5 := Lib.hid (HH.out _ (HN4.out.1.trans hN1)); have HI5 := Lib.hid hB1; clear hB1 hN1 HI4 HN4))
      go_wp2_with fail
      have HN6 := Lib.hid (HH.out _ HN5.out.1.drew)
      have HI6 := Lib.hid (show Brd p w2.drew d m nv bt (add3 A1 (3 + 3 * kn) n) from HI5.out)
      clear HN5 HI5
      have hc := HI6.out.cell (18 + z) (by omega)
      rw [e18] at hc
      have hz := HI6.out.frozen (5 + (18 + z))
      have hset := HI6.out.set (18 + z) (A (18 + z) + 1)
      rw [show 5 + (18 + z) = 23 + z by omega] at hc hz hset
      have HC := Lib.hid hc
      have HZ := Lib.hid hz
      have HT := Lib.hid hset
      have HU := Lib.hid (HN6.out.1.setCell (q := ⟨p, 23 + z, none⟩) (.inl rfl) (.int .i64 (A (18 + z) + 1)))
      clear hc hz hset
      go_region_held (fun W => Near p (w.heap.size + 1) W0 W ∧ W.cell? ⟨w.heap.size, 2, none⟩ = some (.int .i64 kn) ∧ W.cell? ⟨w.heap.size, 3, none⟩ = some (.int .i64 n)) (first | exact HN6.out | exact HN7.out) (first
        | (go_at_call 25; refine (CZ.out _).mono ?_; rintro e w' ⟨rfl, hw⟩; subst hw)
        | (go_at_call 40; refine (i64_add ⟨p, 23 + z, none⟩ (A (18 + z)) 1 (A (18 + z) + 1) _ HC.out HZ.out (IntWalk.i64_in _ (by omega))).mono ?_; rintro e w3 ⟨rfl, rfl⟩; have HN7 := Lib.hid (HH.out _ HU.out)))
      go_wp2_with fail
      go_ret
      refine ⟨rfl, ?_, HM.out.trans (HN7.out.1.mono (by omega))⟩
      subst hG
      exact Brd.step HT.out rfl
    · have hok : f.ok = false := by
        cases hx : f.ok with
        | false => rfl
        | true => have := (f.ok_iff).1 hx; exact absurd ⟨this.2.2.1, this.2.2.2⟩ hn
      have he : errC f = 8 := by unfold errC; rw [if_pos hk, if_neg hn]
      unfold CountPost
      rw [he, hok]
      clear he hok
      unfold Fat.val
      rw [if_neg (by simp)]
      have HH := Lib.hid HB0
      have HM := Lib.hid HN0
      clear HB0 HN0 HR0 h hA
      by_cases hn0 : f.n < 0
      · have q1 : decide (f.n < 0) = true := decide_eq_true hn0
        go_enter Tryd.func10, Tryd.ntmps10
        go_wp2_with (first
          | (go_at_call 37; refine (CI.out _).mono ?_; rintro e w' ⟨rfl, hw⟩; subst hw; rw [hq]))
        go_ret
        exact ⟨rfl, HH.out, HM.out⟩
      · have q1 : decide (f.n < 0) = false := decide_eq_false hn0
        have q2 : decide ((2047 : Int) < f.n) = true := decide_eq_true (by omega)
        go_enter Tryd.func10, Tryd.ntmps10
        go_wp2_with (first
          | (go_at_call 37; refine (CI.out _).mono ?_; rintro e w' ⟨rfl, hw⟩; subst hw; rw [hq]))
        go_ret
        exact ⟨rfl, HH.out, HM.out⟩
  · have hq : decide (0 ≤ f.k ∧ f.k < 5) = false := decide_eq_false hk
    have hok : f.ok = false := by
      cases hx : f.ok with
      | false => rfl
      | true => have := (f.ok_iff).1 hx; exact absurd ⟨this.1, this.2.1⟩ hk
    have he : errC f = 11 := by unfold errC; rw [if_neg hk]
    unfold CountPost
    rw [he, hok]
    clear he hok
    unfold Fat.val
    rw [if_neg (by simp)]
    have HH := Lib.hid HB0
    have HM := Lib.hid HN0
    clear HB0 HN0 HR0 h hA
    go_enter Tryd.func10, Tryd.ntmps10
    go_wp2_with (first
      | (go_at_call 37; refine (CI.out _).mono ?_; rintro e w' ⟨rfl, hw⟩; subst hw; rw [hq]))
    go_ret
    exact ⟨rfl, HH.out, HM.out⟩
#print axioms count_any
end Go.Proofs.YtbpcknjobbjmpaaDoor
