/- A text's lines: what config.lines goes over. -/
import Derived.Test.YtdflkikhmngfiaaGreatDoorZ31
import Derived.Test.YtdflkikhmngfiaaGreatDoorZ34
namespace Go.Proofs.YtdflkikhmngfiaaGreatDoor
open Go.RowKit Go.Shelf
set_option linter.unusedVariables false
set_option linter.unusedSimpArgs false
attribute [local go_sem] Oper.semAt_some

def linesN : Nat → Nat → List UInt8 → List (Nat × ByteArray)
  | 0, _, _ => []
  | f + 1, n, t => if t = [] then [] else (n, strL (cutL 10 t).1) :: linesN f (n + 1) (cutL 10 t).2.1
/-- A text's lines, by their numbers. -/
def linesF (s : ByteArray) : List (Nat × ByteArray) := linesN s.size 1 (LL s)
abbrev encLn (x : Nat × ByteArray) : Array Value := #[.int .i64 (x.1 : Int), .string x.2]
theorem cutL_rest (c : UInt8) (t : List UInt8) (h : t ≠ []) : (cutL c t).2.1.length < t.length := by
  cases hh : (cutL c t).2.2 with
  | true => exact cutL_len c t hh
  | false =>
    rw [(cutL_miss c t hh).2.2]
    exact List.length_pos_iff.2 h
theorem linesN_nil (f n : Nat) : linesN f n [] = [] := by cases f <;> rfl
theorem linesN_cons {f n : Nat} {t : List UInt8} (h : t ≠ []) (hf : t.length ≤ f) : ∃ g, f = g + 1 ∧ (cutL 10 t).2.1.length ≤ g ∧ linesN f n t = (n, strL (cutL 10 t).1) :: linesN g (n + 1) (cutL 10 t).2.1 := by
  cases f with
  | zero => exact absurd (List.length_eq_zero_iff.1 (by omega)) h
  | succ g =>
    refine ⟨g, rfl, ?_, ?_⟩
    · have := cutL_rest 10 t h
      omega
    · show (if t = [] then [] else _) = _
      rw [if_neg h]
/-- The text's box, and the library's variable, stay. -/
def KpL (bx : Nat) (W W' : World) : Prop := (∀ v, W.heap[bx]? = some (.cells #[v] 9 (0, 0)) → W'.heap[bx]? = some (.cells #[v] 9 (0, 0))) ∧ ∀ v, W.cell? ⟨0, 0, none⟩ = some v → W'.cell? ⟨0, 0, none⟩ = some v
theorem KpL.trans {bx : Nat} {A B C : World} (h : KpL bx A B) (k : KpL bx B C) : KpL bx A C := ⟨fun v hv => k.1 v (h.1 v hv), fun v hv => k.2 v (h.2 v hv)⟩
theorem grown_moved {bx : Nat} {w w' : World} (h : w' = w) : Moved bx w w' := h ▸ Moved.refl bx w
theorem moved_drewN (bx : Nat) (w : World) (n : Nat) : Moved bx w (w.drewN n) := Moved.of_below (below_drewN (Below.refl _ w) n)
theorem strL_ne {t : List UInt8} : strL t = ⟨#[]⟩ ↔ t = [] := by
  constructor
  · intro h
    have := congrArg LL h
    rw [LL_strL] at this
    exact this
  · rintro rfl; rfl
set_option maxRecDepth 100000 in
set_option maxHeartbeats 4000000 in
theorem lines1_in (n : Nat) (hn : 1 ≤ n) (text : ByteArray) (hz : text.size ≤ 60000) (l bx : Nat) (J Jx : List (Nat × ByteArray) → World → Prop) (W : World) (hbm : bx ≠ 0) (hm : ∃ m : Int, W.cell? ⟨0, 0, none⟩ = some (.int .i64 m)) (hc : W.heap[bx]? = some (.cells #[.string text] 9 (0, 0)))
    (hJ : ∀ s A B, J s A → Moved bx A B → J s B) (hJx : ∀ s A B, Jx s A → Moved bx A B → Jx s B)
    (hY : ∀ pre x W1, (∃ post, linesF text = pre ++ x :: post) → J pre W1 → YieldAt Fence.wide (n - 1) Tryz.prog l (encLn x) W1 fun e W' =>
      (e = .returned (.bool true) ∧ J (pre ++ [x]) W' ∧ KpL bx W1 W') ∨ (e = .returned (.bool false) ∧ Jx (pre ++ [x]) W'))
    (h0 : J [] W) : CallsIn Fence.wide n Tryz.prog 29 #[.func (.yield l) #[] #[], .pointer (some ⟨bx, 0, none⟩)] W fun e W' => (∃ v, e = .returned v) ∧ (J (linesF text) W' ∨ ∃ pre, Jx pre W') := by
  have HJ := Lib.hid hJ
  have HY := Lib.hid hY
  have HX := Lib.hid hJx
  have H0 := Lib.hid h0
  have HM := Lib.hid hm
  have HC := Lib.hid hc
  have HB := Lib.hid hbm
  clear h0 hm hc hbm
  refine callsIn_of_wp Tryz.func29 rfl trivial ?_ rfl
  simp only [Tryz.ntmps29, List.size_toArray, List.length_cons, List.length_nil, Nat.reduceAdd, Nat.reduceSub, Array.replicate_succ, Array.replicate_zero, List.push_toArray, List.append_toArray, List.nil_append, List.cons_append]
  gi_wp2_with fail
  gi_loopw [3] (fun i wr => ∃ (pre : List (Nat × ByteArray)) (f m : Nat) (t : List UInt8), i = .int .i64 (m : Int) ∧ t.length ≤ f ∧ m + t.length ≤ 60001 ∧ linesF text = pre ++ linesN f m t ∧ J pre wr ∧ wr.heap[bx]? = some (.cells #[.string (strL t)] 9 (0, 0)) ∧ ∃ mm : Int, wr.cell? ⟨0, 0, none⟩ = some (.int .i64 mm)) (fun i _ => 60010 - (intOf i).toNat)
  case atStart =>
    refine ⟨[], text.size, 1, LL text, rfl, by rw [LL_len]; exact Nat.le_refl _, by rw [LL_len]; omega, rfl, H0.out, ?_, HM.out⟩
    rw [strL_LL]
    exact HC.out
  case round =>
    obtain ⟨pre, f, m, t, rfl, hf, hmt, hxs, hj, hbox, hmax⟩ := hrel
    have HXS := Lib.hid hxs
    have HJS := Lib.hid hj
    have HBOX := Lib.hid hbox
    have hcell : wr.cell? ⟨bx, 0, none⟩ = some (.string (strL t)) := cells_arr hbox rfl
    obtain ⟨mm, hmm⟩ := hmax
    have HMM := Lib.hid hmm
    clear hxs hj hbox hmm
    by_cases ht : t = []
    · subst ht
      have e0 : strL ([] : List UInt8) = ⟨#[]⟩ := rfl
      rw [e0] at hcell
      gi_wp2
      go_end0
      refine ⟨⟨_, rfl⟩, .inl ?_⟩
      have := HXS.out
      rw [linesN_nil, List.append_nil] at this
      rw [this]
      exact HJS.out
    · have h2 : ¬ strL t = ⟨#[]⟩ := fun e => ht (strL_ne.1 e)
      obtain ⟨g, rfl, hg, hln⟩ := linesN_cons (n := m) ht hf
      have hrest := cutL_rest 10 t ht
      have HL := Lib.hid hln
      have e11 : (strL t).data.toList = t := LL_strL t
      have C := Lib.hid (show Calls Tryz.prog 30 #[.string (strL t), .string ⟨#[10]⟩] wr fun e w' => e = .returned (.tuple #[.string (strL (cutL 10 t).1), .string (strL (cutL 10 t).2.1), .bool (cutL 10 t).2.2]) ∧ ∃ n, w' = wr.drewN n from by
        have h3 := Tryz.strings_Cut (strL t) ⟨#[10]⟩ mm wr (by rw [strL_sz]; omega) HMM.out
        have e10 : (ByteArray.mk #[10]).data.toList = [10] := rfl
        rw [e10, e11, cut_eq] at h3
        exact h3)
      have hw5 : IntKind.i64.wrap ((m : Int) + 1) = (m : Int) + 1 := IntWalk.i64_in _ (by omega)
      have q4 : (strL t).toList.isEmpty = false := by rw [tl, e11]; simpa using ht
      have HRB := Lib.hid (fun nn => heap_setCell_same (wr.drewN nn) bx 0 #[.string (strL t)] 9 (.string (strL (cutL 10 t).2.1)) HBOX.out)
      have HMV := Lib.hid (fun nn => (moved_drewN bx wr nn).trans (Moved.setCell bx 0 (wr.drewN nn) (.string (strL (cutL 10 t).2.1))))
      have HC2 := Lib.hid (fun nn => show (wr.drewN nn).cell? ⟨bx, 0, none⟩ = some (.string (strL t)) from hcell)
      have HF2 := Lib.hid (fun nn => show (wr.drewN nn).frozen? ⟨bx, 0, none⟩ = false from frozen_of_row _ _ _ _ _ HBOX.out)
      have HMX := Lib.hid (fun nn => (show ((wr.drewN nn).setCell ⟨bx, 0, none⟩ (.string (strL (cutL 10 t).2.1))).cell? ⟨0, 0, none⟩ = some (.int .i64 mm) from (cell_eq (a := ⟨0, 0, none⟩) (Below.heap_setCell _ _ _ _ (fun e => HB.out (by first | exact e | exact e.symm)))).trans HMM.out))
      have HPO := Lib.hid (show ∃ post, linesF text = pre ++ (m, strL (cutL 10 t).1) :: post from ⟨_, by rw [HXS.out, HL.out]⟩)
      have HNX := Lib.hid (show linesF text = (pre ++ [(m, strL (cutL 10 t).1)]) ++ linesN g (m + 1) (cutL 10 t).2.1 by rw [HXS.out, HL.out, List.append_assoc]; rfl)
      clear hln
      generalize hr : (cutL 10 t).2.1 = rest at C HRB HMV HMX HNX hg hrest
      generalize hf1 : (cutL 10 t).1 = line at C HPO HNX
      clear HL hr hf1 e11
      gi_wp2_with (first
        | (refine ⟨trivial, ?_⟩; gi_at_call 30; refine (callsIn_wide.2 C.out).mono ?_; rintro e w2 ⟨rfl, nn, rfl⟩; have c9 := HC2.out nn; have f9 := HF2.out nn; have HRB2 := Lib.hid (HRB.out nn); have HMX2 := Lib.hid (HMX.out nn); have hJ2 := HJ.out pre wr _ HJS.out (HMV.out nn); obtain ⟨fn, tmps, assign, body, hy, hR⟩ := HY.out pre (m, strL line) _ HPO.out hJ2; clear hJ2; dsimp only [encLn] at hy))
      refine hR.mono ?_
      rintro e W3 (⟨rfl, hJ3, hk3⟩ | ⟨rfl, hJx3⟩)
      · have HJ3 := Lib.hid hJ3
        have HR3 := Lib.hid (hk3.1 _ HRB2.out)
        have HM3 := Lib.hid (hk3.2 _ HMX2.out)
        clear hy hk3 hJ3
        gi_wp2
        go_roundw
        case rel => exact ⟨_, g, m + 1, rest, by simp, hg, by omega, HNX.out, HJ3.out, HR3.out, mm, HM3.out⟩
        case measure => simp [intOf]; omega
      · gi_wp2
        refine bodyPost_ret (results_none rfl _ _ _) rfl ?_
        exact ⟨⟨_, rfl⟩, .inr ⟨_, hJx3⟩⟩
theorem lines_any (s : ByteArray) (w : World) : Calls Tryz.prog 14 #[.string s] w fun e w' =>
    e = .returned (.func (.func 29) #[] #[.pointer (some ⟨w.heap.size, 0, none⟩)]) ∧ w' = w.alloc (.cells #[.string s] 9) := by
  go_enter Tryz.func14, Tryz.ntmps14
  go_wp2_with fail
  go_ret
  exact ⟨rfl, rfl⟩
theorem lines_seq (n : Nat) (hn : 1 ≤ n) (text : ByteArray) (hz : text.size ≤ 60000) (bx : Nat) (w : World) (hb : bx < w.heap.size) (hbm : 0 < bx) (hm : ∃ m : Int, w.cell? ⟨0, 0, none⟩ = some (.int .i64 m)) (hc : w.heap[bx]? = some (.cells #[.string text] 9 (0, 0))) :
    SeqSt n Tryz.prog 29 #[.pointer (some ⟨bx, 0, none⟩)] encLn bx (KpL bx) (linesF text) w := fun l J Jx W hW hJ hJx hY h0 =>
  lines1_in n hn text hz l bx J Jx W (by omega) (let ⟨m, h⟩ := hm; ⟨m, (hW.cell (p := ⟨0, 0, none⟩) (Nat.lt_trans hbm hb)).trans h⟩) ((hW.block bx hb).trans hc) hJ hJx hY h0
end Go.Proofs.YtdflkikhmngfiaaGreatDoor

