/- HdM · HnA: joined by a program, for a claim has at most 60 files. -/
import Derived.Test.YteceinojmdgmeaaC36
import Derived.Test.YteceinojmdgmeaaC29
/- The document's states: Check, Same, Light; Own and Back. -/
namespace Go.Proofs.Yteceinojmdgmeaa
open Go.RowKit
set_option linter.unusedVariables false
set_option linter.unusedSimpArgs false

/-- A state's row, of either kind. -/
def SRow (ty : TypeId) (W : World) (q : Nat) (mx : Int) (v : Value) (cp : Int) : Prop := W.heap[q]? = some (.cells #[.int .i64 mx, v, .int .i64 cp] ty (0, 0))
theorem SRow.c0 {ty : TypeId} {W : World} {q : Nat} {m c : Int} {v : Value} (h : SRow ty W q m v c) : W.cell? ⟨q, 0, none⟩ = some (.int .i64 m) := cell_of_row _ _ _ _ _ _ h
theorem SRow.c1 {ty : TypeId} {W : World} {q : Nat} {m c : Int} {v : Value} (h : SRow ty W q m v c) : W.cell? ⟨q, 1, none⟩ = some v := cell_of_row _ _ _ _ _ _ h
theorem SRow.c2 {ty : TypeId} {W : World} {q : Nat} {m c : Int} {v : Value} (h : SRow ty W q m v c) : W.cell? ⟨q, 2, none⟩ = some (.int .i64 c) := cell_of_row _ _ _ _ _ _ h
theorem SRow.z {ty : TypeId} {W : World} {q : Nat} {m c : Int} {v : Value} (h : SRow ty W q m v c) (j : Nat) : W.frozen? ⟨q, j, none⟩ = false := frozen_of_row _ _ _ _ _ h
theorem SRow.lt {ty : TypeId} {W : World} {q : Nat} {m c : Int} {v : Value} (h : SRow ty W q m v c) : q < W.heap.size := World.block_lt_of_cell? W ⟨q, 0, none⟩ h.c0
theorem SRow.step {ty : TypeId} {W W' : World} {q : Nat} {m c : Int} {v : Value} (h : SRow ty W q m v c) (hb : Below W.heap.size W W') : SRow ty W' q m v c := (hb.block q h.lt).trans h
theorem SRow.new (ty : TypeId) (W : World) (m c : Int) (v : Value) : SRow ty (W.alloc (.cells #[.int .i64 m, v, .int .i64 c] ty)) W.heap.size m v c := heap_alloc_new W _
theorem below_new {W : World} (o : Obj) : Below W.heap.size W (W.alloc o) := (Below.refl _ _).alloc (Nat.le_refl _) o
theorem hchk_eq (mx cp : Int) (L : List Fld) : hchk mx cp L = if chkN mx L ≠ 0 then chkN mx L else if cp < 0 ∨ 4096 < cp ∨ cp < mx then 8 else 0 := by
  unfold hchk
  by_cases h : chkN mx L ≠ 0
  · rw [if_pos h, if_pos h]
  · rw [if_neg h, if_neg h]
    have := (chk_sum (show chkN mx L = 0 by omega)).1
    by_cases h2 : 4096 < cp ∨ cp < mx
    · rw [if_pos h2, if_pos (by omega)]
    · rw [if_neg h2, if_neg (by omega)]
set_option maxRecDepth 100000 in
set_option maxHeartbeats 2000000 in
theorem dcheck6_any (mx cp : Int) (oa : Option Addr) (n cap : Nat) (L : List Fld) (hn : L.length = n) (hl : ∀ f ∈ L, lightF f = true) (hn30 : n ≤ 1000) (w : World) (hf : FieldsN w oa L) :
    Calls Try.prog 22 #[.agg #[.int .i64 mx, .slice oa n cap, .int .i64 cp]] w fun e w' => e = .returned (.int .i64 (hchk mx cp L)) ∧ Below w.heap.size w w' := by
  have HB := Lib.hid (below_new (W := w) (.cells #[.int .i64 mx, .slice oa n cap, .int .i64 cp] 40))
  have HR := Lib.hid (SRow.new 40 w mx cp (.slice oa n cap))
  have HC := Lib.hid (fun W (hW : Below w.heap.size w W) => refCheck_any mx oa n cap L hn hl hn30 W (hf.below hW))
  have HV := Lib.hid (hchk_eq mx cp L)
  generalize chkN mx L = k at HC HV
  generalize hchk mx cp L = R at HV ⊢
  clear hf hl hn
  by_cases hk : k = 0
  · subst hk
    obtain ⟨b0, q0⟩ : ∃ b, decide (cp < 0) = b := ⟨_, rfl⟩
    obtain ⟨b1, q1⟩ : ∃ b, decide ((4096 : Int) < cp) = b := ⟨_, rfl⟩
    obtain ⟨b2, q2⟩ : ∃ b, decide (cp < mx) = b := ⟨_, rfl⟩
    have HV2 : Hid (R = if (b0 || b1 || b2) = true then 8 else 0) := Lib.hid (by rw [HV.out, if_neg (by simp), ← q0, ← q1, ← q2]; simp [or_assoc])
    clear HV
    go_enter Try.func22, Try.ntmps22
    go_upto_region 1 with fail
    generalize w.alloc (.cells #[.int .i64 mx, .slice oa n cap, .int .i64 cp] 40) = w1 at HB HR ⊢
    have c0 := HR.out.c0
    have c1 := HR.out.c1
    have c2 := HR.out.c2
    go_upto_region 2 with (first | (go_at_call 46; refine (HC.out _ HB.out).mono ?_; rintro e w2 ⟨rfl, hb⟩; have HB2 := Lib.hid (bs_hd HB.out hb); have HR2 := Lib.hid (HR.out.step hb); clear hb))
    clear c0 c1 c2
    have c0 := HR2.out.c0
    have c2 := HR2.out.c2
    cases b0 <;> cases b1 <;> cases b2
    all_goals
      go_wp2_with fail
      go_ret
      exact ⟨rt_i (by rw [HV2.out]; rfl), HB2.out⟩
  · have q1 : (k == 0) = false := beq_eq_false_iff_ne.2 hk
    have e := (HV.out.trans (if_pos hk)).symm
    subst e
    clear HV hk
    go_enter Try.func22, Try.ntmps22
    go_upto_region 1 with fail
    generalize w.alloc (.cells #[.int .i64 mx, .slice oa n cap, .int .i64 cp] 40) = w1 at HB HR ⊢
    have c0 := HR.out.c0
    have c1 := HR.out.c1
    have c2 := HR.out.c2
    go_wp2_with (first | (go_at_call 46; refine (HC.out _ HB.out).mono ?_; rintro e w2 ⟨rfl, hb⟩; have HB2 := Lib.hid (bs_hd HB.out hb); clear hb))
    go_ret
    exact ⟨rfl, HB2.out⟩
set_option maxRecDepth 100000 in
set_option maxHeartbeats 2000000 in
theorem dsame6_any (m m2 c c2 : Int) (oa ob : Option Addr) (n nb cap cap' : Nat) (L R : List Fld) (hn : L.length = n) (hnb : R.length = nb) (h100 : n ≤ 1000) (hb100 : nb ≤ 1000) (w : World) (hf : FieldsN w oa L) (hg : FieldsN w ob R) :
    Calls Try.prog 19 #[.agg #[.int .i64 m, .slice oa n cap, .int .i64 c], .agg #[.int .i64 m2, .slice ob nb cap', .int .i64 c2]] w fun e w' => e = .returned (.bool (decide (c = c2) && (decide (m = m2) && sameL L R))) ∧ Below w.heap.size w w' := by
  have HC := Lib.hid (fun W (hW : Below w.heap.size w W) => refSame_any m m2 oa ob n nb cap cap' L R hn hnb h100 hb100 W (hf.below hW) (hg.below hW))
  generalize (decide (m = m2) && sameL L R) = r at HC ⊢
  have HB := Lib.hid (bs_hd (below_new (W := w) (.cells #[.int .i64 m, .slice oa n cap, .int .i64 c] 40)) (below_new (.cells #[.int .i64 m2, .slice ob nb cap', .int .i64 c2] 40)))
  have HR := Lib.hid ((SRow.new 40 w m c (.slice oa n cap)).step (below_new (.cells #[.int .i64 m2, .slice ob nb cap', .int .i64 c2] 40)))
  have HS : Hid (SRow 40 ((w.alloc (.cells #[.int .i64 m, .slice oa n cap, .int .i64 c] 40)).alloc (.cells #[.int .i64 m2, .slice ob nb cap', .int .i64 c2] 40)) (w.heap.size + 1) m2 (.slice ob nb cap') c2) := Lib.hid (two1 _ _ _)
  have e1 : (c == c2) = decide (c = c2) := by rw [Bool.eq_iff_iff]; simp
  generalize decide (c = c2) = b at e1 ⊢
  clear hf hg hn hnb
  go_enter Try.func19, Try.ntmps19
  go_upto_region 1 with fail
  generalize ((w.alloc (.cells #[.int .i64 m, .slice oa n cap, .int .i64 c] 40)).alloc (.cells #[.int .i64 m2, .slice ob nb cap', .int .i64 c2] 40)) = w1 at HB HR HS ⊢
  have x0 := HR.out.c0
  have x1 := HR.out.c1
  have x2 := HR.out.c2
  have y0 := HS.out.c0
  have y1 := HS.out.c1
  have y2 := HS.out.c2
  cases b
  · go_wp2_with fail
    go_ret
    exact ⟨rfl, HB.out⟩
  · go_wp2_with (first | (go_at_call 34; refine (HC.out _ HB.out).mono ?_; rintro e w2 ⟨rfl, hb⟩; replace HB := Lib.hid (bs_hd HB.out hb); clear hb))
    go_ret
    exact ⟨rt_b (by simp), HB.out⟩
set_option maxRecDepth 100000 in
set_option maxHeartbeats 2000000 in
theorem light6_any (mx cp : Int) (oa : Option Addr) (n cap : Nat) (L : List Fld) (hn : L.length = n) (w : World) (hf : FieldsN w oa L) :
    Calls Try.prog 12 #[.agg #[.int .i64 mx, .slice oa n cap, .int .i64 cp]] w fun e w' => e = .returned (.bool (light L)) ∧ Below w.heap.size w w' := by
  have HB := Lib.hid (below_new (W := w) (.cells #[.int .i64 mx, .slice oa n cap, .int .i64 cp] 40))
  have HR := Lib.hid (SRow.new 40 w mx cp (.slice oa n cap))
  have HC := Lib.hid (fun W (hW : Below w.heap.size w W) => light_any oa n cap L hn W (hf.below hW))
  generalize light L = k at HC ⊢
  clear hf hn
  go_enter Try.func12, Try.ntmps12
  go_upto_region 1 with fail
  generalize w.alloc (.cells #[.int .i64 mx, .slice oa n cap, .int .i64 cp] 40) = w1 at HB HR ⊢
  have c0 := HR.out.c0
  have c1 := HR.out.c1
  have c2 := HR.out.c2
  go_wp2_with (first | (go_at_call 31; refine (HC.out _ HB.out).mono ?_; rintro e w2 ⟨rfl, hw⟩; subst hw))
  go_ret
  exact ⟨rfl, HB.out⟩
set_option maxRecDepth 100000 in
set_option maxHeartbeats 2000000 in
theorem hown_any (mx cp : Int) (v : Value) (hv : ∃ oa n cap, v = .slice oa n cap) (w : World) :
    Calls Try.prog 15 #[.agg #[.int .i64 mx, v, .int .i64 cp]] w fun e w' => e = .returned (.agg #[.int .i64 mx, v, .int .i64 cp]) ∧ Below w.heap.size w w' := by
  obtain ⟨oa, n, cap, rfl⟩ := hv
  have HB := Lib.hid (bs_hd (below_new (W := w) (.cells #[.int .i64 mx, .slice oa n cap, .int .i64 cp] 40)) (below_new (.cells #[.int .i64 0, .slice none 0 0, .int .i64 0] 45)))
  have HR := Lib.hid ((SRow.new 40 w mx cp (.slice oa n cap)).step (below_new (.cells #[.int .i64 0, .slice none 0 0, .int .i64 0] 45)))
  have HZ : Hid (SRow 45 ((w.alloc (.cells #[.int .i64 mx, .slice oa n cap, .int .i64 cp] 40)).alloc (.cells #[.int .i64 0, .slice none 0 0, .int .i64 0] 45)) (w.heap.size + 1) 0 (.slice none 0 0) 0) := Lib.hid (two1 _ _ _)
  go_enter Try.func15, Try.ntmps15
  go_upto_region 1 with fail
  generalize ((w.alloc (.cells #[.int .i64 mx, .slice oa n cap, .int .i64 cp] 40)).alloc (.cells #[.int .i64 0, .slice none 0 0, .int .i64 0] 45)) = w1 at HB HR HZ ⊢
  have c0 := HR.out.c0
  have c1 := HR.out.c1
  have c2 := HR.out.c2
  go_wp2_with (first | (refine wpList_store_row rfl _ _ _ rfl (w.heap.size + 1) #[.int .i64 mx, .slice oa n cap, .int .i64 cp] rfl rfl _ _ HZ.out (by kernel_rfl) rfl (by kernel_rfl) ?_))
  exact bodyPost_ret (v := .agg #[.int .i64 mx, .slice oa n cap, .int .i64 cp]) (results_cell_row rfl _ _ (w.heap.size + 1) _ _ (0, 0) _ rfl (setRow_heap _ _ _ _ _ _ HZ.out) Try.underlying45 rfl (by kernel_rfl)) rfl ⟨rfl, below_row HB.out (by omega) _⟩
set_option maxRecDepth 100000 in
set_option maxHeartbeats 2000000 in
theorem hback_any (mx cp : Int) (v : Value) (hv : ∃ oa n cap, v = .slice oa n cap) (w : World) :
    Calls Try.prog 20 #[.agg #[.int .i64 mx, v, .int .i64 cp]] w fun e w' => e = .returned (.agg #[.int .i64 mx, v, .int .i64 cp]) ∧ Below w.heap.size w w' := by
  obtain ⟨oa, n, cap, rfl⟩ := hv
  have HB := Lib.hid (bs_hd (below_new (W := w) (.cells #[.int .i64 mx, .slice oa n cap, .int .i64 cp] 45)) (below_new (.cells #[.int .i64 0, .slice none 0 0, .int .i64 0] 40)))
  have HR := Lib.hid ((SRow.new 45 w mx cp (.slice oa n cap)).step (below_new (.cells #[.int .i64 0, .slice none 0 0, .int .i64 0] 40)))
  have HZ : Hid (SRow 40 ((w.alloc (.cells #[.int .i64 mx, .slice oa n cap, .int .i64 cp] 45)).alloc (.cells #[.int .i64 0, .slice none 0 0, .int .i64 0] 40)) (w.heap.size + 1) 0 (.slice none 0 0) 0) := Lib.hid (two1 _ _ _)
  go_enter Try.func20, Try.ntmps20
  go_upto_region 1 with fail
  generalize ((w.alloc (.cells #[.int .i64 mx, .slice oa n cap, .int .i64 cp] 45)).alloc (.cells #[.int .i64 0, .slice none 0 0, .int .i64 0] 40)) = w1 at HB HR HZ ⊢
  have c0 := HR.out.c0
  have c1 := HR.out.c1
  have c2 := HR.out.c2
  go_wp2_with (first | (refine wpList_store_row rfl _ _ _ rfl (w.heap.size + 1) #[.int .i64 mx, .slice oa n cap, .int .i64 cp] rfl rfl _ _ HZ.out (by kernel_rfl) rfl (by kernel_rfl) ?_))
  exact bodyPost_ret (v := .agg #[.int .i64 mx, .slice oa n cap, .int .i64 cp]) (results_cell_row rfl _ _ (w.heap.size + 1) _ _ (0, 0) _ rfl (setRow_heap _ _ _ _ _ _ HZ.out) Try.underlying40 rfl (by kernel_rfl)) rfl ⟨rfl, below_row HB.out (by omega) _⟩
end Go.Proofs.Yteceinojmdgmeaa


/- henc: New, Check, Same, long: the walks. -/
namespace Go.Proofs.Yteceinojmdgmeaa
open Go.RowKit
set_option linter.unusedVariables false
set_option linter.unusedSimpArgs false

/-- A state of henc, in a row of its own. -/
def ERow (W : World) (q : Nat) (mx : Int) (v : Value) (le la : Int) : Prop := W.heap[q]? = some (.cells #[.int .i64 mx, v, .int .i64 le, .int .i64 la] 30 (0, 0))
theorem ERow.c0 {W : World} {q : Nat} {m a b : Int} {v : Value} (h : ERow W q m v a b) : W.cell? ⟨q, 0, none⟩ = some (.int .i64 m) := cell_of_row _ _ _ _ _ _ h
theorem ERow.c1 {W : World} {q : Nat} {m a b : Int} {v : Value} (h : ERow W q m v a b) : W.cell? ⟨q, 1, none⟩ = some v := cell_of_row _ _ _ _ _ _ h
theorem ERow.c2 {W : World} {q : Nat} {m a b : Int} {v : Value} (h : ERow W q m v a b) : W.cell? ⟨q, 2, none⟩ = some (.int .i64 a) := cell_of_row _ _ _ _ _ _ h
theorem ERow.c3 {W : World} {q : Nat} {m a b : Int} {v : Value} (h : ERow W q m v a b) : W.cell? ⟨q, 3, none⟩ = some (.int .i64 b) := cell_of_row _ _ _ _ _ _ h
theorem ERow.lt {W : World} {q : Nat} {m a b : Int} {v : Value} (h : ERow W q m v a b) : q < W.heap.size := World.block_lt_of_cell? W ⟨q, 0, none⟩ h.c0
theorem ERow.step {W W' : World} {q : Nat} {m a b : Int} {v : Value} (h : ERow W q m v a b) (hb : Below W.heap.size W W') : ERow W' q m v a b := (hb.block q h.lt).trans h
theorem ERow.new (W : World) (m a b : Int) (v : Value) : ERow (W.alloc (.cells #[.int .i64 m, v, .int .i64 a, .int .i64 b] 30)) W.heap.size m v a b := heap_alloc_new W _
/-- What Check tells. -/
def echk (mx le la : Int) (L : List Fld) : Int := if chkN mx L ≠ 0 then chkN mx L else if le < 0 ∨ min la mx < le ∨ 4096 < la then 8 else 0
set_option maxRecDepth 100000 in
set_option maxHeartbeats 2000000 in
theorem echeck_any (mx le la : Int) (oa : Option Addr) (n cap : Nat) (L : List Fld) (hn : L.length = n) (hl : ∀ f ∈ L, lightF f = true) (hn30 : n ≤ 1000) (w : World) (hf : FieldsN w oa L) :
    Calls Try.prog 35 #[.agg #[.int .i64 mx, .slice oa n cap, .int .i64 le, .int .i64 la]] w fun e w' => e = .returned (.int .i64 (echk mx le la L)) ∧ Below w.heap.size w w' := by
  have HB := Lib.hid (below_new (W := w) (.cells #[.int .i64 mx, .slice oa n cap, .int .i64 le, .int .i64 la] 30))
  have HR := Lib.hid (ERow.new w mx le la (.slice oa n cap))
  have HC := Lib.hid (fun W (hW : Below w.heap.size w W) => check_any mx oa n cap L hn hl hn30 W (hf.below hW))
  have HV : Hid (echk mx le la L = if chkN mx L ≠ 0 then chkN mx L else if le < 0 ∨ min la mx < le ∨ 4096 < la then 8 else 0) := Lib.hid rfl
  generalize chkN mx L = k at HC HV
  clear hf hl hn
  go_enter Try.func35, Try.ntmps35
  go_upto_region 1 with fail
  generalize w.alloc (.cells #[.int .i64 mx, .slice oa n cap, .int .i64 le, .int .i64 la] 30) = w1 at HB HR ⊢
  have c0 := HR.out.c0
  have c1 := HR.out.c1
  go_upto_region 2 with (first | (go_at_call 45; refine (HC.out _ HB.out).mono ?_; rintro e w2 ⟨rfl, hb⟩; have HB2 := Lib.hid (bs_hd HB.out hb); have HR2 := Lib.hid (HR.out.step hb); clear hb))
  clear c0 c1
  have c0 := HR2.out.c0
  have c2 := HR2.out.c2
  have c3 := HR2.out.c3
  by_cases hk : k = 0
  · subst hk
    obtain ⟨b1, q1⟩ : ∃ b, decide (le < 0) = b := ⟨_, rfl⟩
    obtain ⟨b2, q2⟩ : ∃ b, decide (min la mx < le) = b := ⟨_, rfl⟩
    obtain ⟨b3, q3⟩ : ∃ b, decide ((4096 : Int) < la) = b := ⟨_, rfl⟩
    have HV2 : Hid (echk mx le la L = if (b1 || (b2 || b3)) = true then 8 else 0) := Lib.hid (by rw [HV.out, if_neg (by simp), ← q1, ← q2, ← q3]; simp)
    cases b1 <;> cases b2 <;> cases b3
    all_goals
      go_wp2_with fail
      go_ret
      exact ⟨rt_i (by rw [HV2.out]; rfl), HB2.out⟩
  · have q1 : (k == 0) = false := beq_eq_false_iff_ne.2 hk
    have q2 : (k != 0) = true := by rw [bne, q1]; rfl
    have HV2 := Lib.hid (HV.out.trans (if_pos hk))
    go_wp2_with fail
    go_ret
    exact ⟨rt_i HV2.out.symm, HB2.out⟩
set_option maxRecDepth 100000 in
set_option maxHeartbeats 2000000 in
theorem esame_any (m m2 le le2 la la2 : Int) (oa ob : Option Addr) (n nb cap cap' : Nat) (L R : List Fld) (hn : L.length = n) (hnb : R.length = nb) (h100 : n ≤ 1000) (hb100 : nb ≤ 1000) (w : World) (hf : FieldsN w oa L) (hg : FieldsN w ob R) :
    Calls Try.prog 10 #[.agg #[.int .i64 m, .slice oa n cap, .int .i64 le, .int .i64 la], .agg #[.int .i64 m2, .slice ob nb cap', .int .i64 le2, .int .i64 la2]] w fun e w' => e = .returned (.bool (decide (le = le2) && (decide (la = la2) && (decide (m = m2) && sameL L R)))) ∧ Below w.heap.size w w' := by
  have HC := Lib.hid (fun W (hW : Below w.heap.size w W) => same_any m m2 oa ob n nb cap cap' L R hn hnb h100 hb100 W (hf.below hW) (hg.below hW))
  generalize (decide (m = m2) && sameL L R) = r at HC ⊢
  have HB := Lib.hid (bs_hd (below_new (W := w) (.cells #[.int .i64 m, .slice oa n cap, .int .i64 le, .int .i64 la] 30)) (below_new (.cells #[.int .i64 m2, .slice ob nb cap', .int .i64 le2, .int .i64 la2] 30)))
  have HR := Lib.hid ((ERow.new w m le la (.slice oa n cap)).step (below_new (.cells #[.int .i64 m2, .slice ob nb cap', .int .i64 le2, .int .i64 la2] 30)))
  have HS : Hid (ERow ((w.alloc (.cells #[.int .i64 m, .slice oa n cap, .int .i64 le, .int .i64 la] 30)).alloc (.cells #[.int .i64 m2, .slice ob nb cap', .int .i64 le2, .int .i64 la2] 30)) (w.heap.size + 1) m2 (.slice ob nb cap') le2 la2) := Lib.hid (two1 _ _ _)
  have e1 : (le == le2) = decide (le = le2) := by rw [Bool.eq_iff_iff]; simp
  have e2 : (la == la2) = decide (la = la2) := by rw [Bool.eq_iff_iff]; simp
  generalize decide (le = le2) = b at e1 ⊢
  generalize decide (la = la2) = b2 at e2 ⊢
  clear hf hg hn hnb
  go_enter Try.func10, Try.ntmps10
  go_upto_region 1 with fail
  generalize ((w.alloc (.cells #[.int .i64 m, .slice oa n cap, .int .i64 le, .int .i64 la] 30)).alloc (.cells #[.int .i64 m2, .slice ob nb cap', .int .i64 le2, .int .i64 la2] 30)) = w1 at HB HR HS ⊢
  have x0 := HR.out.c0
  have x1 := HR.out.c1
  have x2 := HR.out.c2
  have x3 := HR.out.c3
  have y0 := HS.out.c0
  have y1 := HS.out.c1
  have y2 := HS.out.c2
  have y3 := HS.out.c3
  cases b
  · go_wp2_with fail
    go_ret
    exact ⟨rfl, HB.out⟩
  · cases b2
    · go_wp2_with fail
      go_ret
      exact ⟨rfl, HB.out⟩
    · go_wp2_with (first | (go_at_call 37; refine (HC.out _ HB.out).mono ?_; rintro e w2 ⟨rfl, hb⟩; replace HB := Lib.hid (bs_hd HB.out hb); clear hb))
      go_ret
      exact ⟨rt_b (by simp), HB.out⟩
/-- Whether a field is too long. -/
def longF (f : Fld) : Bool := decide (4096 < f.name.size) || decide (4096 < f.value.size)
set_option maxRecDepth 100000 in
set_option maxHeartbeats 2000000 in
theorem elong_any (f : Fld) (w : World) : Calls Try.prog 59 #[.agg #[.string f.name, .string f.value, .bool f.never]] w fun e w' => e = .returned (.bool (longF f)) ∧ Below w.heap.size w w' := by
  have HB := Lib.hid (below_new (W := w) (.cells #[.string f.name, .string f.value, .bool f.never] 25))
  have HR := Lib.hid (show FRow (w.alloc (.cells #[.string f.name, .string f.value, .bool f.never] 25)) w.heap.size f from heap_alloc_new w _)
  obtain ⟨fn, fv, fb⟩ := f
  unfold longF
  dsimp only
  obtain ⟨b1, e1⟩ : ∃ b, decide (4096 < fn.size) = b := ⟨_, rfl⟩
  obtain ⟨b2, e2⟩ : ∃ b, decide (4096 < fv.size) = b := ⟨_, rfl⟩
  have q1 : decide ((4096 : Int) < (fn.size : Int)) = b1 := by rw [← e1]; exact decide_eq_decide.2 (by omega)
  have q2 : decide ((4096 : Int) < (fv.size : Int)) = b2 := by rw [← e2]; exact decide_eq_decide.2 (by omega)
  rw [e1, e2]
  go_enter Try.func59, Try.ntmps59
  go_upto_region 1 with fail
  generalize w.alloc (.cells #[.string fn, .string fv, .bool fb] 25) = w1 at HB HR ⊢
  have x0 := HR.out.c0
  have x1 := HR.out.c1
  dsimp only at x0 x1
  cases b1 <;> cases b2
  all_goals
    go_wp2_with fail
    go_ret
    exact ⟨rfl, HB.out⟩
set_option maxRecDepth 100000 in
set_option maxHeartbeats 2000000 in
theorem enew_any (w : World) : Calls Try.prog 8 #[] w fun e w' => e = .returned (.agg #[.int .i64 4096, .slice none 0 0, .int .i64 4096, .int .i64 4096]) ∧ Below w.heap.size w w' := by
  have HZ := Lib.hid (ERow.new w 0 0 0 (.slice none 0 0))
  have HB := Lib.hid (below_new (W := w) (.cells #[.int .i64 0, .slice none 0 0, .int .i64 0, .int .i64 0] 30))
  go_enter Try.func8, Try.ntmps8
  go_upto_region 1 with fail
  generalize w.alloc (.cells #[.int .i64 0, .slice none 0 0, .int .i64 0, .int .i64 0] 30) = w1 at HB HZ ⊢
  go_wp2_with (first | (refine wpList_store_row rfl _ _ _ rfl w.heap.size #[.int .i64 4096, .slice none 0 0, .int .i64 4096, .int .i64 4096] rfl rfl _ _ HZ.out (by kernel_rfl) rfl (by kernel_rfl) ?_))
  try rw [Exit.noGoto_ret]
  exact bodyPost_ret (v := .agg #[.int .i64 4096, .slice none 0 0, .int .i64 4096, .int .i64 4096]) (results_cell_row rfl _ _ w.heap.size _ _ (0, 0) _ rfl (setRow_heap _ _ _ _ _ _ HZ.out) Try.underlying30 rfl (by kernel_rfl)) rfl
    ⟨rfl, below_row HB.out (Nat.le_refl _) _⟩
end Go.Proofs.Yteceinojmdgmeaa

