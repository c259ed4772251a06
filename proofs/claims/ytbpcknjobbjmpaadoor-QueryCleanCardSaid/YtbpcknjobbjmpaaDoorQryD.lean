/- Paths are cut; a pair is read. -/
import Derived.Test.YtbpcknjobbjmpaaDoorQryC
import Derived.Lib.SplitLaws
namespace Go.Proofs.YtbpcknjobbjmpaaDoor
open Go.RowKit
set_option linter.unusedVariables false
set_option linter.unusedSimpArgs false

/-- The library's own variable holds some number. -/
def MaxC (w : World) : Prop := ∃ m : Int, w.cell? ⟨0, 0, none⟩ = some (.int .i64 m)
theorem MaxC.below {w W : World} (h : MaxC w) (hb : Below w.heap.size w W) : MaxC W := by
  obtain ⟨m, hm⟩ := h
  exact ⟨m, (cell_eq (a := ⟨0, 0, none⟩) (hb.block 0 (World.block_lt_of_cell? _ _ hm))).trans hm⟩
theorem below_drewN (w : World) (n : Nat) : Below w.heap.size w (w.drewN n) := by
  induction n with
  | zero => exact Below.refl _ _
  | succ n ih => exact ih.drew
def strL (l : List UInt8) : ByteArray := ⟨l.toArray⟩
def cutS (s : ByteArray) (c : UInt8) : ByteArray × ByteArray × Bool := (strL (Lib.cut s.data.toList [c]).1, strL (Lib.cut s.data.toList [c]).2.1, (Lib.cut s.data.toList [c]).2.2)
theorem strL_size (l : List UInt8) : (strL l).size = l.length := by show l.toArray.size = _; simp
theorem cut_le (l : List UInt8) (c : UInt8) : (Lib.cut l [c]).1.length ≤ l.length ∧ (Lib.cut l [c]).2.1.length ≤ l.length := by
  unfold Lib.cut
  split
  · simp; omega
  · simp
theorem cutS_le (s : ByteArray) (c : UInt8) : (cutS s c).1.size ≤ s.size ∧ (cutS s c).2.1.size ≤ s.size := by
  have := cut_le s.data.toList c
  unfold cutS
  simp only [strL_size]
  rw [sz]
  exact this
theorem split_any (s : ByteArray) (hs : s.size ≤ 1000000) (w : World) (hM : MaxC w) :
    Calls Tryd.prog 31 #[.string s] w fun e w' => e = .returned (.tuple #[.string (cutS s 63).1, .string (cutS s 63).2.1, .bool (cutS s 63).2.2]) ∧ Below w.heap.size w w' := by
  obtain ⟨m, hm⟩ := hM
  have C := Lib.hid (Tryd.strings_Cut s ⟨#[63]⟩ m w (by omega) hm)
  have HB := Lib.hid (below_drewN w)
  have e : (ByteArray.mk #[63]).data.toList = [63] := rfl
  rw [e] at C
  unfold cutS strL
  generalize (Lib.cut s.data.toList [63]).1.toArray = x at C ⊢
  generalize (Lib.cut s.data.toList [63]).2.1.toArray = y at C ⊢
  generalize (Lib.cut s.data.toList [63]).2.2 = z at C ⊢
  go_enter Tryd.func31, Tryd.ntmps31
  go_wp2_with (first | (go_at_call 56; refine C.out.mono ?_; rintro e w' ⟨rfl, n, rfl⟩))
  refine bodyPost_ret (v := .tuple #[.string ⟨x⟩, .string ⟨y⟩, .bool z]) (by simp [results, Tryd.results31, go_sem]) rfl ⟨rfl, HB.out n⟩
def qdec (s : ByteArray) : ByteArray × Nat := (bsB (decL [] (bytesU s)).1, (decL [] (bytesU s)).2)
structure Pr where
  k : ByteArray
  v : ByteArray
def emS : ByteArray := ⟨#[]⟩
def Pr.nil : Pr := ⟨emS, emS⟩
def pairT (s : ByteArray) : Pr × Nat :=
  if (qdec (cutS s 61).1).2 ≠ 0 then (Pr.nil, (qdec (cutS s 61).1).2)
  else if (qdec (cutS s 61).2.1).2 ≠ 0 then (Pr.nil, (qdec (cutS s 61).2.1).2)
  else (⟨(qdec (cutS s 61).1).1, (qdec (cutS s 61).2.1).1⟩, 0)
theorem res2 {w' : World} {g : Nat} {a b : Value} {t : TypeId} (h : w'.heap[g]? = some (.cells #[a, b] t (0, 0))) :
    (w'.cell? ⟨g, 0, none⟩ = some a ∧ w'.cell? ⟨g, 1, none⟩ = some b) ∧ w'.frozen? ⟨g, 0, none⟩ = false ∧ w'.frozen? ⟨g, 1, none⟩ = false := by
  refine ⟨⟨?_, ?_⟩, frozen_of_row _ _ _ _ _ h, frozen_of_row _ _ _ _ _ h⟩ <;> (rw [cell_of_row _ _ _ _ _ _ h]; rfl)
theorem store2 {w' : World} {g : Nat} {a b : Value} {t : TypeId} (h : w'.heap[g]? = some (.cells #[a, b] t (0, 0))) (x y : Value) :
    ((w'.setCell ⟨g, 0, none⟩ x).setCell ⟨g, 1, none⟩ y).cell? ⟨g, 0, none⟩ = some x ∧ ((w'.setCell ⟨g, 0, none⟩ x).setCell ⟨g, 1, none⟩ y).cell? ⟨g, 1, none⟩ = some y :=
  (res2 (heap_setCell_same _ _ 1 _ _ y (heap_setCell_same _ _ 0 _ _ x h))).1
def PairPost (s : ByteArray) (w : World) (e : Ending) (w' : World) : Prop :=
  e = .returned (.tuple #[.agg #[.string (pairT s).1.k, .string (pairT s).1.v], .int .i64 ((pairT s).2 : Nat)]) ∧ Below w.heap.size w w'
set_option maxRecDepth 100000 in
set_option maxHeartbeats 4000000 in
theorem pair_any (s : ByteArray) (hs : s.size ≤ 1000000) (w : World) (hM : MaxC w) : Calls Tryd.prog 57 #[.string s] w (PairPost s w) := by
  have HN := Lib.hid ((Below.refl w.heap.size w).alloc (Nat.le_refl _) (.cells #[.string ⟨#[]⟩, .string ⟨#[]⟩] 104))
  have HR := Lib.hid (heap_alloc_new w (.cells #[.string ⟨#[]⟩, .string ⟨#[]⟩] 104))
  obtain ⟨m, hm⟩ := hM.below HN.out
  have C := Lib.hid (Tryd.strings_Cut s ⟨#[61]⟩ m _ (by omega) hm)
  have HB := Lib.hid below_drewN
  have e : (ByteArray.mk #[61]).data.toList = [61] := rfl
  rw [e] at C
  unfold PairPost pairT
  obtain ⟨l1, l2⟩ := cutS_le s 61
  have D1 := Lib.hid (qdecode_any (cutS s 61).1 (by omega))
  have D2 := Lib.hid (qdecode_any (cutS s 61).2.1 (by omega))
  unfold DecPost at D1 D2
  change Hid (∀ w, Calls Tryd.prog 29 #[.string (cutS s 61).1] w fun e w' => e = .returned (.tuple #[.string (qdec (cutS s 61).1).1, .int .i64 ((qdec (cutS s 61).1).2 : Nat)]) ∧ Below w.heap.size w w') at D1
  change Hid (∀ w, Calls Tryd.prog 29 #[.string (cutS s 61).2.1] w fun e w' => e = .returned (.tuple #[.string (qdec (cutS s 61).2.1).1, .int .i64 ((qdec (cutS s 61).2.1).2 : Nat)]) ∧ Below w.heap.size w w') at D2
  generalize hx : (cutS s 61).1 = x at *
  generalize hy : (cutS s 61).2.1 = y at *
  have hx' : (Lib.cut s.data.toList [61]).1.toArray = x.data := by rw [← hx]; rfl
  have hy' : (Lib.cut s.data.toList [61]).2.1.toArray = y.data := by rw [← hy]; rfl
  rw [hx', hy'] at C
  generalize (Lib.cut s.data.toList [61]).2.2 = z at C
  clear hx hy hx' hy' hm l1 l2
  generalize qdec x = k at *
  generalize qdec y = v at *
  obtain ⟨kx, ke⟩ := k
  obtain ⟨vx, ve⟩ := v
  simp only at D1 D2 ⊢
  have hnil : Pr.nil = ⟨⟨#[]⟩, ⟨#[]⟩⟩ := rfl
  by_cases hke : ke = 0
  · subst hke
    by_cases hve : ve = 0
    · subst hve
      rw [if_neg (by simp), if_neg (by simp)]
      go_enter Tryd.func57, Tryd.ntmps57
      go_wp2_with (first
        | (go_at_call 56; refine C.out.mono ?_; rintro e w1 ⟨rfl, n, rfl⟩)
        | (go_at_call 29; first
            | ((with_reducible refine (D1.out _).mono ?_); rintro e w2 ⟨rfl, hb⟩; have HB2 := Lib.hid (HN.out.trans (((HB.out _ n).trans (hb.mono (HB.out _ n).size)).mono (by simp))); have hr2 := (((HB.out _ n).trans (hb.mono (HB.out _ n).size)).block w.heap.size (by simp)).trans HR.out; clear D1 hb)
            | ((with_reducible refine (D2.out _).mono ?_); rintro e w3 ⟨rfl, hb⟩; have hr3 := (hb.block w.heap.size (Array.getElem?_eq_some_iff.1 hr2).1).trans hr2; obtain ⟨⟨r0, r1⟩, z0, z1⟩ := res2 hr3; obtain ⟨s0, s1⟩ := store2 hr3 (.string kx) (.string vx); have HB3 := Lib.hid (HB2.out.trans (hb.mono HB2.out.size)); clear D2 hb hr2 hr3)))
      refine bodyPost_ret (v := .tuple #[.agg #[.string kx, .string vx], .int .i64 0]) (by simp [results, Tryd.results57, go_sem, s0, s1]) rfl ⟨rfl, ?_⟩
      have HD := HB3.out
      repeat' (first | exact HD | (with_reducible refine Below.setCell ?_ ?_ _))
      all_goals (first | exact Nat.le_refl _ | omega | (simp; done))
    · have q2 : ((ve : Int) != 0) = true := by simp; omega
      rw [if_neg (by simp), if_pos hve, hnil]
      go_enter Tryd.func57, Tryd.ntmps57
      go_wp2_with (first
        | (go_at_call 56; refine C.out.mono ?_; rintro e w1 ⟨rfl, n, rfl⟩)
        | (go_at_call 29; first
            | ((with_reducible refine (D1.out _).mono ?_); rintro e w2 ⟨rfl, hb⟩; have HB2 := Lib.hid (HN.out.trans (((HB.out _ n).trans (hb.mono (HB.out _ n).size)).mono (by simp))); have hr2 := (((HB.out _ n).trans (hb.mono (HB.out _ n).size)).block w.heap.size (by simp)).trans HR.out; clear D1 hb)
            | ((with_reducible refine (D2.out _).mono ?_); rintro e w3 ⟨rfl, hb⟩; have hr3 := (hb.block w.heap.size (Array.getElem?_eq_some_iff.1 hr2).1).trans hr2; obtain ⟨⟨r0, r1⟩, z0, z1⟩ := res2 hr3; obtain ⟨s0, s1⟩ := store2 hr3 (.string ⟨#[]⟩) (.string ⟨#[]⟩); have HB3 := Lib.hid (HB2.out.trans (hb.mono HB2.out.size)); clear D2 hb hr2 hr3)))
      refine bodyPost_ret (v := .tuple #[.agg #[.string ⟨#[]⟩, .string ⟨#[]⟩], .int .i64 (ve : Int)]) (by simp [results, Tryd.results57, go_sem, s0, s1]) rfl ⟨rfl, ?_⟩
      have HD := HB3.out
      repeat' (first | exact HD | (with_reducible refine Below.setCell ?_ ?_ _))
      all_goals (first | exact Nat.le_refl _ | omega | (simp; done))
  · have q1 : ((ke : Int) != 0) = true := by simp; omega
    rw [if_pos hke, hnil]
    go_enter Tryd.func57, Tryd.ntmps57
    go_wp2_with (first
      | (go_at_call 56; refine C.out.mono ?_; rintro e w1 ⟨rfl, n, rfl⟩)
      | (go_at_call 29; first
          | ((with_reducible refine (D1.out _).mono ?_); rintro e w2 ⟨rfl, hb⟩; have HB2 := Lib.hid (HN.out.trans (((HB.out _ n).trans (hb.mono (HB.out _ n).size)).mono (by simp))); have hr2 := (((HB.out _ n).trans (hb.mono (HB.out _ n).size)).block w.heap.size (by simp)).trans HR.out; clear D1 hb; obtain ⟨⟨r0, r1⟩, z0, z1⟩ := res2 hr2; obtain ⟨s0, s1⟩ := store2 hr2 (.string ⟨#[]⟩) (.string ⟨#[]⟩); have HB3 := HB2; clear hr2)))
    refine bodyPost_ret (v := .tuple #[.agg #[.string ⟨#[]⟩, .string ⟨#[]⟩], .int .i64 (ke : Int)]) (by simp [results, Tryd.results57, go_sem, s0, s1]) rfl ⟨rfl, ?_⟩
    have HD := HB3.out
    repeat' (first | exact HD | (with_reducible refine Below.setCell ?_ ?_ _))
    all_goals (first | exact Nat.le_refl _ | omega | (simp; done))
#print axioms pair_any
end Go.Proofs.YtbpcknjobbjmpaaDoor
