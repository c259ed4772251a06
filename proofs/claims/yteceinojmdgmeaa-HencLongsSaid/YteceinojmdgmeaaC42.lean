/- HdN · HdT: joined by a program, for a claim has at most 60 files. -/
import Derived.Test.YteceinojmdgmeaaC41
import Derived.Test.YteceinojmdgmeaaC16
import Derived.Test.YteceinojmdgmeaaC38
import Derived.KernelRfl
/- New, of both. -/
namespace Go.Proofs.Yteceinojmdgmeaa
open Go.RowKit
set_option linter.unusedVariables false
set_option linter.unusedSimpArgs false

/-- A new state: how great it may be, the error. -/
def newM (m : Int) : Int := if m < 0 ∨ 4096 < m then 0 else m
def newE (m : Int) : Int := if m < 0 ∨ 4096 < m then 8 else 0
theorem hchk_new (m : Int) : hchk m m [] = newE m := by
  rw [hchk_eq]
  unfold newE
  by_cases h : m < 0 ∨ 4096 < m
  · have e : chkN m [] = 8 := by unfold chkN; rw [if_pos h]
    rw [e, if_pos h]
    rfl
  · have e : chkN m [] = 0 := by
      unfold chkN
      rw [if_neg h]
      simp only [List.any_nil, Bool.false_eq_true, if_false]
      exact if_neg (by simp [sumF]; omega)
    rw [e, if_neg h, if_neg (by simp), if_neg (by omega)]
def NewPost (m : Int) (w : World) (e : Ending) (w' : World) : Prop := e = .returned (.tuple #[.agg #[.int .i64 (newM m), .slice none 0 0, .int .i64 (newM m)], .int .i64 (newE m)]) ∧ Below w.heap.size w w'
set_option maxRecDepth 100000 in
set_option maxHeartbeats 2000000 in
theorem hnew_any (m : Int) (w : World) : Calls Try.prog 17 #[.int .i64 m] w (NewPost m w) := by
  have HZ := Lib.hid (SRow.new 45 w 0 0 (.slice none 0 0))
  have HB := Lib.hid (below_new (W := w) (.cells #[.int .i64 0, .slice none 0 0, .int .i64 0] 45))
  unfold NewPost
  by_cases h : m < 0 ∨ 4096 < m
  · have e1 : newM m = 0 := if_pos h
    have e2 : newE m = 8 := if_pos h
    rw [e1, e2]
    have HC := Lib.hid (fun W => new_no m h W)
    clear e1 e2 h
    go_enter Try.func17, Try.ntmps17
    go_upto_region 1 with fail
    generalize w.alloc (.cells #[.int .i64 0, .slice none 0 0, .int .i64 0] 45) = w1 at HB HZ ⊢
    go_upto_region 2 with (first | (go_at_call 44; refine (HC.out _).mono ?_; rintro e w2 ⟨rfl, hb⟩; replace HB := Lib.hid (bs_hd HB.out hb); replace HZ := Lib.hid (HZ.out.step hb); clear hb))
    replace HZ := Lib.hid (HZ.out.step (below_new (.cells #[.int .i64 0, .slice none 0 0] 28)))
    replace HB := Lib.hid (bs_hd HB.out (below_new (.cells #[.int .i64 0, .slice none 0 0] 28)))
    generalize w2.alloc (.cells #[.int .i64 0, .slice none 0 0] 28) = w3 at HZ HB ⊢
    go_wp2_with (first | (refine wpList_store_row rfl _ _ _ rfl w.heap.size #[.int .i64 0, .slice none 0 0, .int .i64 0] rfl rfl _ _ HZ.out (by kernel_rfl) rfl (by kernel_rfl) ?_))
    exact bodyPost_ret (v := .tuple #[.agg #[.int .i64 0, .slice none 0 0, .int .i64 0], .int .i64 8]) (res_cell2 rfl _ _ w.heap.size _ _ (0, 0) _ rfl (setRow_heap _ _ _ _ _ _ HZ.out) Try.underlying45 rfl (by kernel_rfl) _ rfl) rfl ⟨rfl, below_row HB.out (Nat.le_refl _) _⟩
  · have e1 : newM m = m := if_neg h
    have e2 : newE m = 0 := if_neg h
    rw [e1, e2]
    have HC := Lib.hid (fun W => new_yes m (by omega) W)
    clear e1 e2 h
    go_enter Try.func17, Try.ntmps17
    go_upto_region 1 with fail
    generalize w.alloc (.cells #[.int .i64 0, .slice none 0 0, .int .i64 0] 45) = w1 at HB HZ ⊢
    go_upto_region 2 with (first | (go_at_call 44; refine (HC.out _).mono ?_; rintro e w2 ⟨rfl, hb⟩; replace HB := Lib.hid (bs_hd HB.out hb); replace HZ := Lib.hid (HZ.out.step hb); clear hb))
    have HT := Lib.hid (TRow.new w2 m (.slice none 0 0))
    replace HZ := Lib.hid (HZ.out.step (below_new (.cells #[.int .i64 m, .slice none 0 0] 28)))
    replace HB := Lib.hid (bs_hd HB.out (below_new (.cells #[.int .i64 m, .slice none 0 0] 28)))
    generalize w2.alloc (.cells #[.int .i64 m, .slice none 0 0] 28) = w3 at HZ HB HT ⊢
    have x0 := HT.out.c0
    have x1 := HT.out.c1
    go_wp2_with (first | (refine wpList_store_row rfl _ _ _ rfl w.heap.size #[.int .i64 m, .slice none 0 0, .int .i64 m] rfl rfl _ _ HZ.out (by kernel_rfl) rfl (by kernel_rfl) ?_))
    exact bodyPost_ret (v := .tuple #[.agg #[.int .i64 m, .slice none 0 0, .int .i64 m], .int .i64 0]) (res_cell2 rfl _ _ w.heap.size _ _ (0, 0) _ rfl (setRow_heap _ _ _ _ _ _ HZ.out) Try.underlying45 rfl (by kernel_rfl) _ rfl) rfl ⟨rfl, below_row HB.out (Nat.le_refl _) _⟩
set_option maxRecDepth 100000 in
set_option maxHeartbeats 2000000 in
theorem dnew_any (m : Int) (w : World) : Calls Try.prog 18 #[.int .i64 m] w (NewPost m w) := by
  have HZ := Lib.hid (SRow.new 40 w 0 0 (.slice none 0 0))
  have HB := Lib.hid (below_new (W := w) (.cells #[.int .i64 0, .slice none 0 0, .int .i64 0] 40))
  have HC := Lib.hid (fun W => dcheck6_any m m none 0 0 [] rfl (fun f h => by cases h) (by omega) W (FieldsN.nil _ _))
  rw [hchk_new] at HC
  unfold NewPost
  by_cases h : m < 0 ∨ 4096 < m
  · have e1 : newM m = 0 := if_pos h
    have e2 : newE m = 8 := if_pos h
    rw [e2] at HC
    rw [e1, e2]
    clear e1 e2 h
    go_enter Try.func18, Try.ntmps18
    go_upto_region 2 with (first | (refine wpList_store_row rfl _ _ _ rfl (w.heap.size + 1) #[.int .i64 m, .slice none 0 0, .int .i64 m] rfl rfl _ _ (two1 _ _ _) (by kernel_rfl) rfl (by kernel_rfl) ?_))
    have HQ := Lib.hid (show SRow 40 _ (w.heap.size + 1) m (.slice none 0 0) m from setRow_heap _ _ _ #[.int .i64 m, .slice none 0 0, .int .i64 m] _ _ (two1 w (.cells #[.int .i64 0, .slice none 0 0, .int .i64 0] 40) (.cells #[.int .i64 0, .slice none 0 0, .int .i64 0] 40)))
    replace HZ := Lib.hid (show SRow 40 _ w.heap.size 0 (.slice none 0 0) 0 from (setRow_other _ (w.heap.size + 1) w.heap.size #[.int .i64 m, .slice none 0 0, .int .i64 m] (by omega)).trans (HZ.out.step (below_new (.cells #[.int .i64 0, .slice none 0 0, .int .i64 0] 40))))
    replace HB := Lib.hid (below_row (bs_hd HB.out (below_new (.cells #[.int .i64 0, .slice none 0 0, .int .i64 0] 40))) (show w.heap.size ≤ w.heap.size + 1 by omega) #[.int .i64 m, .slice none 0 0, .int .i64 m])
    generalize ((w.alloc (.cells #[.int .i64 0, .slice none 0 0, .int .i64 0] 40)).alloc (.cells #[.int .i64 0, .slice none 0 0, .int .i64 0] 40)).setRow (w.heap.size + 1) #[.int .i64 m, .slice none 0 0, .int .i64 m] = w1 at HQ HZ HB ⊢
    have x0 := HQ.out.c0
    have x1 := HQ.out.c1
    have x2 := HQ.out.c2
    go_wp2_with (first | (go_at_call 22; refine (HC.out _).mono ?_; rintro e w2 ⟨rfl, hb⟩; replace HB := Lib.hid (bs_hd HB.out hb); replace HZ := Lib.hid (HZ.out.step hb); replace HQ := Lib.hid (HQ.out.step hb); clear hb; have x0 := HQ.out.c0; have x1 := HQ.out.c1; have x2 := HQ.out.c2) | (refine wpList_store_row rfl _ _ _ rfl w.heap.size #[.int .i64 0, .slice none 0 0, .int .i64 0] rfl rfl _ _ HZ.out (by kernel_rfl) rfl (by kernel_rfl) ?_))
    exact bodyPost_ret (v := .tuple #[.agg #[.int .i64 0, .slice none 0 0, .int .i64 0], .int .i64 8]) (res_cell2 rfl _ _ w.heap.size _ _ (0, 0) _ rfl (setRow_heap _ _ _ _ _ _ HZ.out) Try.underlying40 rfl (by kernel_rfl) _ rfl) rfl ⟨rfl, below_row HB.out (Nat.le_refl _) _⟩
  · have e1 : newM m = m := if_neg h
    have e2 : newE m = 0 := if_neg h
    rw [e2] at HC
    rw [e1, e2]
    clear e1 e2 h
    go_enter Try.func18, Try.ntmps18
    go_upto_region 2 with (first | (refine wpList_store_row rfl _ _ _ rfl (w.heap.size + 1) #[.int .i64 m, .slice none 0 0, .int .i64 m] rfl rfl _ _ (two1 _ _ _) (by kernel_rfl) rfl (by kernel_rfl) ?_))
    have HQ := Lib.hid (show SRow 40 _ (w.heap.size + 1) m (.slice none 0 0) m from setRow_heap _ _ _ #[.int .i64 m, .slice none 0 0, .int .i64 m] _ _ (two1 w (.cells #[.int .i64 0, .slice none 0 0, .int .i64 0] 40) (.cells #[.int .i64 0, .slice none 0 0, .int .i64 0] 40)))
    replace HZ := Lib.hid (show SRow 40 _ w.heap.size 0 (.slice none 0 0) 0 from (setRow_other _ (w.heap.size + 1) w.heap.size #[.int .i64 m, .slice none 0 0, .int .i64 m] (by omega)).trans (HZ.out.step (below_new (.cells #[.int .i64 0, .slice none 0 0, .int .i64 0] 40))))
    replace HB := Lib.hid (below_row (bs_hd HB.out (below_new (.cells #[.int .i64 0, .slice none 0 0, .int .i64 0] 40))) (show w.heap.size ≤ w.heap.size + 1 by omega) #[.int .i64 m, .slice none 0 0, .int .i64 m])
    generalize ((w.alloc (.cells #[.int .i64 0, .slice none 0 0, .int .i64 0] 40)).alloc (.cells #[.int .i64 0, .slice none 0 0, .int .i64 0] 40)).setRow (w.heap.size + 1) #[.int .i64 m, .slice none 0 0, .int .i64 m] = w1 at HQ HZ HB ⊢
    have x0 := HQ.out.c0
    have x1 := HQ.out.c1
    have x2 := HQ.out.c2
    go_wp2_with (first | (go_at_call 22; refine (HC.out _).mono ?_; rintro e w2 ⟨rfl, hb⟩; replace HB := Lib.hid (bs_hd HB.out hb); replace HZ := Lib.hid (HZ.out.step hb); replace HQ := Lib.hid (HQ.out.step hb); clear hb; have x0 := HQ.out.c0; have x1 := HQ.out.c1; have x2 := HQ.out.c2) | (refine wpList_store_row rfl _ _ _ rfl w.heap.size #[.int .i64 m, .slice none 0 0, .int .i64 m] rfl rfl _ _ HZ.out (by kernel_rfl) rfl (by kernel_rfl) ?_))
    exact bodyPost_ret (v := .tuple #[.agg #[.int .i64 m, .slice none 0 0, .int .i64 m], .int .i64 0]) (res_cell2 rfl _ _ w.heap.size _ _ (0, 0) _ rfl (setRow_heap _ _ _ _ _ _ HZ.out) Try.underlying40 rfl (by kernel_rfl) _ rfl) rfl ⟨rfl, below_row HB.out (Nat.le_refl _) _⟩
end Go.Proofs.Yteceinojmdgmeaa


/- footmanlaw06.awake: closed facts, and the calls that it makes. -/
namespace Go.Proofs.Yteceinojmdgmeaa
open Go.RowKit
set_option linter.unusedVariables false
set_option linter.unusedSimpArgs false

def kM : ByteArray := ⟨#[58, 109, 101, 116, 104, 111, 100]⟩
def kG : ByteArray := ⟨#[71, 69, 84]⟩
def kA : ByteArray := ⟨#[58, 97, 117, 116, 104, 111, 114, 105, 116, 121]⟩
def fAu : Fld := ⟨kA, ⟨#[97]⟩, false⟩
def LAu : List Fld := [fAu]
def L4 : List Fld := [⟨stN 1, stV 1, false⟩, ⟨stN 5, stV 5, false⟩, ⟨stN 3, stV 3, false⟩, fAu]
set_option maxRecDepth 100000 in
theorem blkN_1 : hBlk 4096 4096 [] [130, 134, 132, 65, 1, 97] = (4096, LAu, L4, true, 0) := by kernel_rfl
set_option maxRecDepth 100000 in
theorem blkN_2 : hBlk 4096 4096 [] [63, 225, 63] = (4096, [], [], false, 8) := by kernel_rfl
set_option maxRecDepth 100000 in
theorem blkN_3 : hBlk 4096 4096 [] [130, 32] = (4096, [], [], false, 10) := by kernel_rfl
set_option maxRecDepth 100000 in
theorem blkN_4 : hBlk 4096 4096 [] [190] = (4096, [], [], false, 6) := by kernel_rfl
set_option maxRecDepth 100000 in
theorem stpN_1 : hStep 4096 4096 LAu ⟨0, 62, ⟨#[]⟩, ⟨#[]⟩⟩ = (4096, LAu, fAu, true, 0) := by kernel_rfl
theorem chkH_1 : hchk 4096 4096 LAu = 0 := by kernel_rfl
theorem sumN_1 : sumF [fAu] = 43 := by kernel_rfl
theorem samN_1 : sameL LAu LAu = true := by kernel_rfl
theorem samN_2 : sameL LAu [] = false := by kernel_rfl
theorem st_1 : stN 1 = kM ∧ stV 1 = kG := ⟨by kernel_rfl, by kernel_rfl⟩
theorem newN_1 : newM 4096 = 4096 ∧ newE 4096 = 0 := ⟨by kernel_rfl, by kernel_rfl⟩
end Go.Proofs.Yteceinojmdgmeaa

