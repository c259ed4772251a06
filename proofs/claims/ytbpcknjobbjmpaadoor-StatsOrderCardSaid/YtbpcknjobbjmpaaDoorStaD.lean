/- The board's methods: what they tell, and how a fate is counted. -/
import Derived.Test.YtbpcknjobbjmpaaDoorStaC
namespace Go.Proofs.YtbpcknjobbjmpaaDoor
open Go.RowKit
set_option linter.unusedVariables false
set_option linter.unusedSimpArgs false

theorem in_any (k : Int) (w : World) : Calls Tryd.prog 37 #[.int .i64 k] w fun e w' => e = .returned (.bool (decide (0 ≤ k ∧ k < 5))) ∧ w' = w := by
  by_cases h0 : 0 ≤ k
  · have q0 : decide (0 ≤ k) = true := decide_eq_true h0
    have q : decide (0 ≤ k ∧ k < 5) = decide (k < 5) := by simp [h0]
    rw [q]
    generalize hq : decide (k < 5) = b
    go_enter Tryd.func37, Tryd.ntmps37
    go_wp2
    go_ret
    exact ⟨rfl, rfl⟩
  · have q0 : decide (0 ≤ k) = false := decide_eq_false h0
    have q : decide (0 ≤ k ∧ k < 5) = false := by simp [h0]
    rw [q]
    go_enter Tryd.func37, Tryd.ntmps37
    go_wp2
    go_ret
    exact ⟨rfl, rfl⟩
theorem size_any (c : Int) (hc : (Lit.int .i64 c).wf = true) (w : World) : Calls Tryd.prog 25 #[.int .i64 c] w fun e w' => e = .returned (.int .i64 (szI c : Nat)) ∧ w' = w := by
  have e1 : IntKind.i64.min = -9223372036854775808 := rfl
  have e2 : IntKind.i64.max = 9223372036854775807 := rfl
  simp only [Lit.wf, Bool.and_eq_true, decide_eq_true_eq, e1, e2] at hc
  by_cases h : c < 1
  · have q : decide (c < 1) = true := decide_eq_true h
    have hz : szI c = 0 := by unfold szI szN; rw [show c.toNat = 0 by omega]; rfl
    rw [hz]
    go_enter Tryd.func25, Tryd.ntmps25
    go_wp2
    go_ret
    exact ⟨rfl, rfl⟩
  · have q : decide (c < 1) = false := decide_eq_false h
    have hw : IntKind.u64.wrap c = c := IntWalk.u64_in _ (by omega)
    have C := Lib.hid (Tryd.bits_Len c w (by omega) (by omega))
    have hz : ((szI c : Nat) : Int) = min ((Lib.bitLen c.toNat : Nat) : Int) 11 := by unfold szI szN; omega
    rw [hz]
    generalize ((Lib.bitLen c.toNat : Nat) : Int) = L at C
    go_enter Tryd.func25, Tryd.ntmps25
    go_wp2_with (first | (go_at_call 47; refine C.out.mono ?_; rintro e w' ⟨rfl, rfl⟩))
    go_ret
    exact ⟨rfl, rfl⟩
def sumV (a b c : Int) : Value := .agg #[.int .i64 a, .int .i64 b, .int .i64 c]
theorem talSum_any (p a o : Nat) (ha : a = 5 + o) (ho : o + 2 < 30) (d m : Int) (nv : Value) (bt : Int) (A : Nat → Int) (w : World) (h : Brd p w d m nv bt A) :
    Calls Tryd.prog 42 #[.pointer (some ⟨p, a, none⟩)] w fun e w' => e = .returned (sumV (A o) (A (o + 1)) (A (o + 2))) ∧ Below w.heap.size w w' := by
  subst ha
  have c0 := h.cell o (by omega)
  have c1 := h.cell (o + 1) (by omega)
  have c2 := h.cell (o + 2) (by omega)
  rw [show 5 + (o + 1) = 5 + o + 1 by omega] at c1
  rw [show 5 + (o + 2) = 5 + o + 2 by omega] at c2
  have hlt := h.lt
  clear h
  unfold sumV
  generalize A o = x0 at c0 ⊢
  generalize A (o + 1) = x1 at c1 ⊢
  generalize A (o + 2) = x2 at c2 ⊢
  generalize 5 + o = b at c0 c1 c2 ⊢
  have HB : ∀ W : World, Below w.heap.size w W → W.cell? ⟨p, b, none⟩ = some (.int .i64 x0) ∧ W.cell? ⟨p, b + 1, none⟩ = some (.int .i64 x1) ∧ W.cell? ⟨p, b + 2, none⟩ = some (.int .i64 x2) := fun W hb =>
    ⟨(cell_eq (hb.block _ hlt)).trans c0, (cell_eq (hb.block _ hlt)).trans c1, (cell_eq (hb.block _ hlt)).trans c2⟩
  have HF := Lib.hid HB
  clear HB c0 c1 c2
  go_enter Tryd.func42, Tryd.ntmps42
  go_wp2_with fail
  have HN := Lib.hid ((Below.refl w.heap.size w).alloc (Nat.le_refl _) (.cells #[.int .i64 0, .int .i64 0, .int .i64 0] 36))
  go_region_with (first
    | (go_at_call 38; (first
       | ((with_reducible refine (i64_load ⟨p, b, none⟩ x0 _ ?_).mono ?_); exact (HF.out _ HN.out).1)
       | ((with_reducible refine (i64_load ⟨p, b + 1, none⟩ x1 _ ?_).mono ?_); exact (HF.out _ HN.out).2.1)
       | ((with_reducible refine (i64_load ⟨p, b + 2, none⟩ x2 _ ?_).mono ?_); exact (HF.out _ HN.out).2.2)); rintro e w' ⟨rfl, rfl⟩))
  have HD := ((Below.refl w.heap.size w).alloc (Nat.le_refl _) (.cells #[.int .i64 x0, .int .i64 x1, .int .i64 x2] 36)).drew
  all_goals (
    go_wp2_with fail
    refine bodyPost_ret (v := .agg #[.int .i64 x0, .int .i64 x1, .int .i64 x2]) (by simp [results, Tryd.results42, go_sem]) rfl ⟨rfl, HD⟩)
theorem res3 {w' : World} {g : Nat} {a b c : Value} {t : TypeId} (h : w'.heap[g]? = some (.cells #[a, b, c] t (0, 0))) :
    (w'.cell? ⟨g, 0, none⟩ = some a ∧ w'.cell? ⟨g, 1, none⟩ = some b ∧ w'.cell? ⟨g, 2, none⟩ = some c) ∧ w'.frozen? ⟨g, 0, none⟩ = false ∧ w'.frozen? ⟨g, 1, none⟩ = false ∧ w'.frozen? ⟨g, 2, none⟩ = false := by
  refine ⟨⟨?_, ?_, ?_⟩, frozen_of_row _ _ _ _ _ h, frozen_of_row _ _ _ _ _ h, frozen_of_row _ _ _ _ _ h⟩ <;> (rw [cell_of_row _ _ _ _ _ _ h]; rfl)
theorem store3 {w' : World} {g : Nat} {a b c : Value} {t : TypeId} (h : w'.heap[g]? = some (.cells #[a, b, c] t (0, 0))) (x y z : Value) :
    (((w'.setCell ⟨g, 0, none⟩ x).setCell ⟨g, 1, none⟩ y).setCell ⟨g, 2, none⟩ z).cell? ⟨g, 0, none⟩ = some x ∧ (((w'.setCell ⟨g, 0, none⟩ x).setCell ⟨g, 1, none⟩ y).setCell ⟨g, 2, none⟩ z).cell? ⟨g, 1, none⟩ = some y ∧ (((w'.setCell ⟨g, 0, none⟩ x).setCell ⟨g, 1, none⟩ y).setCell ⟨g, 2, none⟩ z).cell? ⟨g, 2, none⟩ = some z :=
  (res3 (heap_setCell_same _ _ 2 _ _ z (heap_setCell_same _ _ 1 _ _ y (heap_setCell_same _ _ 0 _ _ x h)))).1
def kindA (A : Nat → Int) (k : Int) : Value := if 0 ≤ k ∧ k < 5 then sumV (A (3 + 3 * k.toNat)) (A (3 + 3 * k.toNat + 1)) (A (3 + 3 * k.toNat + 2)) else sumV 0 0 0
theorem of_any (p : Nat) (k : Int) (d m : Int) (nv : Value) (bt : Int) (A : Nat → Int) (w : World) (h : Brd p w d m nv bt A) :
    Calls Tryd.prog 13 #[.pointer (some ⟨p, 0, none⟩), .int .i64 k] w fun e w' => e = .returned (kindA A k) ∧ Below w.heap.size w w' := by
  have CI := Lib.hid (in_any k)
  have HN := Lib.hid ((Below.refl w.heap.size w).alloc (Nat.le_refl _) (.cells #[.int .i64 0, .int .i64 0, .int .i64 0] 36))
  by_cases hk : 0 ≤ k ∧ k < 5
  · have hq : decide (0 ≤ k ∧ k < 5) = true := decide_eq_true hk
    have hv : kindA A k = sumV (A (3 + 3 * k.toNat)) (A (3 + 3 * k.toNat + 1)) (A (3 + 3 * k.toNat + 2)) := if_pos hk
    rw [hv]
    obtain ⟨h0, h5⟩ := hk
    obtain ⟨kn, rfl⟩ : ∃ kn : Nat, k = kn := ⟨k.toNat, by omega⟩
    simp only [Int.toNat_natCast] at *
    have HR := Lib.hid (h.below h.lt HN.out)
    have hkn : kn < 5 := by omega
    clear h hv
    go_enter Tryd.func13, Tryd.ntmps13
    go_wp2_with (first
      | (go_at_call 37; refine (CI.out _).mono ?_; rintro e w' ⟨rfl, hw⟩; subst hw; rw [hq])
      | (go_at_call 42; refine (talSum_any p _ (3 + 3 * kn) (by omega) (by omega) d m nv bt A _ HR.out).mono ?_; rintro e w' ⟨rfl, hb⟩; unfold sumV; have hr := (hb.block w.heap.size (by simp)).trans (heap_alloc_new w (.cells #[.int .i64 0, .int .i64 0, .int .i64 0] 36)); obtain ⟨⟨r0, r1, r2⟩, z0, z1, z2⟩ := res3 hr; obtain ⟨s0, s1, s2⟩ := store3 hr (.int .i64 (A (3 + 3 * kn))) (.int .i64 (A (3 + 3 * kn + 1))) (.int .i64 (A (3 + 3 * kn + 2))); have HD := Lib.hid (HN.out.trans (hb.mono (by simp))); clear hb))
    refine bodyPost_ret (v := .agg #[.int .i64 (A (3 + 3 * kn)), .int .i64 (A (3 + 3 * kn + 1)), .int .i64 (A (3 + 3 * kn + 2))]) (by simp [results, Tryd.results13, go_sem, s0, s1, s2]) rfl ⟨rfl, ?_⟩
    have HD := HD.out
    repeat' (first | exact HD | (with_reducible refine Below.setCell ?_ ?_ _))
    all_goals (first | exact Nat.le_refl _ | omega | (simp; done) | trace_state)
  · have hq : decide (0 ≤ k ∧ k < 5) = false := decide_eq_false hk
    have hv : kindA A k = sumV 0 0 0 := if_neg hk
    rw [hv]
    unfold sumV
    go_enter Tryd.func13, Tryd.ntmps13
    go_wp2_with (first
      | (go_at_call 37; refine (CI.out _).mono ?_; rintro e w' ⟨rfl, hw⟩; subst hw; rw [hq]))
    refine bodyPost_ret (v := .agg #[.int .i64 0, .int .i64 0, .int .i64 0]) (by simp [results, Tryd.results13, go_sem]) rfl ⟨rfl, HN.out⟩
theorem of_none (k : Int) (w : World) :
    Calls Tryd.prog 13 #[.pointer none, .int .i64 k] w fun e w' => e = .returned (sumV 0 0 0) ∧ Below w.heap.size w w' := by
  have HN := Lib.hid ((Below.refl w.heap.size w).alloc (Nat.le_refl _) (.cells #[.int .i64 0, .int .i64 0, .int .i64 0] 36))
  unfold sumV
  go_enter Tryd.func13, Tryd.ntmps13
  go_wp2_with fail
  refine bodyPost_ret (v := .agg #[.int .i64 0, .int .i64 0, .int .i64 0]) (by simp [results, Tryd.results13, go_sem]) rfl ⟨rfl, HN.out⟩
theorem all_none (w : World) :
    Calls Tryd.prog 14 #[.pointer none] w fun e w' => e = .returned (sumV 0 0 0) ∧ Below w.heap.size w w' := by
  have HN := Lib.hid ((Below.refl w.heap.size w).alloc (Nat.le_refl _) (.cells #[.int .i64 0, .int .i64 0, .int .i64 0] 36))
  unfold sumV
  go_enter Tryd.func14, Tryd.ntmps14
  go_wp2_with fail
  refine bodyPost_ret (v := .agg #[.int .i64 0, .int .i64 0, .int .i64 0]) (by simp [results, Tryd.results14, go_sem]) rfl ⟨rfl, HN.out⟩
theorem all_any (p : Nat) (d m : Int) (nv : Value) (bt : Int) (A : Nat → Int) (w : World) (h : Brd p w d m nv bt A) :
    Calls Tryd.prog 14 #[.pointer (some ⟨p, 0, none⟩)] w fun e w' => e = .returned (sumV (A 0) (A 1) (A 2)) ∧ Below w.heap.size w w' := by
  have HN := Lib.hid ((Below.refl w.heap.size w).alloc (Nat.le_refl _) (.cells #[.int .i64 0, .int .i64 0, .int .i64 0] 36))
  have HR := Lib.hid (h.below h.lt HN.out)
  clear h
  unfold sumV
  go_enter Tryd.func14, Tryd.ntmps14
  go_wp2_with (first
    | (go_at_call 42; refine (talSum_any p _ 0 (by omega) (by omega) d m nv bt A _ HR.out).mono ?_; rintro e w' ⟨rfl, hb⟩; unfold sumV; have hr := (hb.block w.heap.size (by simp)).trans (heap_alloc_new w (.cells #[.int .i64 0, .int .i64 0, .int .i64 0] 36)); obtain ⟨⟨r0, r1, r2⟩, z0, z1, z2⟩ := res3 hr; obtain ⟨s0, s1, s2⟩ := store3 hr (.int .i64 (A 0)) (.int .i64 (A (0 + 1))) (.int .i64 (A (0 + 2))); have HD := Lib.hid (HN.out.trans (hb.mono (by simp))); clear hb))
  refine bodyPost_ret (v := .agg #[.int .i64 (A 0), .int .i64 (A 1), .int .i64 (A 2)]) (by simp [results, Tryd.results14, go_sem, s0, s1, s2]) rfl ⟨rfl, ?_⟩
  have HD := HD.out
  repeat' (first | exact HD | (with_reducible refine Below.setCell ?_ ?_ _))
  all_goals (first | exact Nat.le_refl _ | omega | (simp; done))
theorem built_any (p : Nat) (d m : Int) (nv : Value) (bt : Int) (A : Nat → Int) (w : World) (h : Brd p w d m nv bt A) :
    Calls Tryd.prog 24 #[.pointer (some ⟨p, 0, none⟩)] w fun e w' => e = .returned (.int .i64 bt) ∧ w' = w := by
  have hc := h.front.2.2.2.2
  go_enter Tryd.func24, Tryd.ntmps24
  go_wp2
  go_ret
  exact ⟨rfl, rfl⟩
theorem built_none (w : World) :
    Calls Tryd.prog 24 #[.pointer none] w fun e w' => e = .returned (.int .i64 0) ∧ w' = w := by
  go_enter Tryd.func24, Tryd.ntmps24
  go_wp2
  go_ret
  exact ⟨rfl, rfl⟩
theorem sum_f0 (a b c : Int) (w : World) : (Instr.field 36 (.agg #[.int .i64 a, .int .i64 b, .int .i64 c]) 0).run Tryd.prog w = .ok (.int .i64 a) w := by kernel_rfl
set_option maxRecDepth 100000 in
theorem share_none (k : Int) (w : World) :
    Calls Tryd.prog 19 #[.pointer none, .int .i64 k] w fun e w' => e = .returned (.int .i64 0) ∧ Below w.heap.size w w' := by
  have hsf := sum_f0
  go_enter Tryd.func19, Tryd.ntmps19
  go_wp2_with (first
    | (go_at_call 14; refine (all_none _).mono ?_; rintro e w' ⟨rfl, hb⟩; unfold sumV; have HD := Lib.hid hb; clear hb))
  go_ret
  exact ⟨rfl, HD.out⟩
def kn (A : Nat → Int) (k : Int) : Int := if 0 ≤ k ∧ k < 5 then A (3 + 3 * k.toNat) else 0
def kc (A : Nat → Int) (k : Int) : Int := if 0 ≤ k ∧ k < 5 then A (3 + 3 * k.toNat + 1) else 0
def km (A : Nat → Int) (k : Int) : Int := if 0 ≤ k ∧ k < 5 then A (3 + 3 * k.toNat + 2) else 0
theorem kindA_eq (A : Nat → Int) (k : Int) : kindA A k = .agg #[.int .i64 (kn A k), .int .i64 (kc A k), .int .i64 (km A k)] := by
  unfold kindA kn kc km
  split <;> rfl
def shareA (A : Nat → Int) (k : Int) : Int := if A 0 = 0 then 0 else kn A k * 1000 / A 0
set_option maxRecDepth 100000 in
theorem share_any (p : Nat) (k : Int) (d m : Int) (nv : Value) (bt : Int) (A : Nat → Int) (w : World) (h : Brd p w d m nv bt A) (h0 : 0 ≤ A 0 ∧ A 0 ≤ 1000000) (hk : 0 ≤ kn A k ∧ kn A k ≤ 1000000) :
    Calls Tryd.prog 19 #[.pointer (some ⟨p, 0, none⟩), .int .i64 k] w fun e w' => e = .returned (.int .i64 (shareA A k)) ∧ Below w.heap.size w w' := by
  have HR := Lib.hid h
  clear h
  by_cases hz : A 0 = 0
  · have hv : shareA A k = 0 := if_pos hz
    rw [hv]
    have q : ((A 0) == 0) = true := by simp [hz]
    have hsf := sum_f0
    go_enter Tryd.func19, Tryd.ntmps19
    go_wp2_with (first
      | (go_at_call 14; refine (all_any p d m nv bt A _ HR.out).mono ?_; rintro e w' ⟨rfl, hb⟩; unfold sumV; have HD := Lib.hid hb; clear hb))
    go_ret
    exact ⟨rfl, HD.out⟩
  · have hv : shareA A k = kn A k * 1000 / A 0 := if_neg hz
    rw [hv]
    have q : ((A 0) == 0) = false := by simp [hz]
    have hm : IntKind.i64.wrap (kn A k * 1000) = kn A k * 1000 := IntWalk.i64_in _ (by omega)
    have hdiv : (kn A k * 1000).tdiv (A 0) = kn A k * 1000 / A 0 := Int.tdiv_eq_ediv_of_nonneg (by omega)
    have hr : 0 ≤ kn A k * 1000 / A 0 ∧ kn A k * 1000 / A 0 ≤ 1000000000 := by
      constructor
      · exact Int.ediv_nonneg (by omega) (by omega)
      · exact Int.le_trans (Int.ediv_le_self _ (by omega)) (by omega)
    have hw2 : IntKind.i64.wrap (kn A k * 1000 / A 0) = kn A k * 1000 / A 0 := IntWalk.i64_in _ (by omega)
    have hsf := sum_f0
    go_enter Tryd.func19, Tryd.ntmps19
    go_wp2_with (first
      | (go_at_call 14; refine (all_any p d m nv bt A _ HR.out).mono ?_; rintro e w' ⟨rfl, hb⟩; unfold sumV; have HD := Lib.hid hb; have HR2 := Lib.hid (HR.out.below HR.out.lt hb); clear hb)
      | (go_at_call 13; refine (of_any p k d m nv bt A _ HR2.out).mono ?_; rintro e w'' ⟨rfl, hb⟩; rw [kindA_eq]; have HD2 := Lib.hid (HD.out.trans (hb.mono HD.out.size)); clear hb))
    go_ret
    exact ⟨rfl, HD2.out⟩
end Go.Proofs.YtbpcknjobbjmpaaDoor
