/- Pairs in memory; pairs are read: query.Parse, query.Find. -/
import Derived.Test.YtbpcknjobbjmpaaDoorQryD
namespace Go.Proofs.YtbpcknjobbjmpaaDoor
open Go.RowKit
set_option linter.unusedVariables false
set_option linter.unusedSimpArgs false

def Pr.cells (f : Pr) : List Value := [.string f.k, .string f.v]
def prc (L : List Pr) : List Value := L.flatMap Pr.cells
theorem prc_cons (f : Pr) (L : List Pr) : prc (f :: L) = f.cells ++ prc L := by simp [prc]
theorem prc_append (a b : List Pr) : prc (a ++ b) = prc a ++ prc b := by simp [prc]
theorem prc_len (L : List Pr) : (prc L).length = L.length * 2 := by
  induction L with
  | nil => rfl
  | cons f l ih => rw [prc_cons, List.length_append, ih, List.length_cons]; simp [Pr.cells]; omega
theorem prc_one (L : List Pr) : ∀ u ∈ prc L, u.oneCell' = true := by
  intro u hu
  obtain ⟨f, _, hf⟩ := List.mem_flatMap.1 hu
  simp [Pr.cells] at hf
  rcases hf with rfl | rfl <;> rfl
theorem prc_get (L : List Pr) : ∀ (i : Nat) (x : Pr), L[i]? = some x → (prc L)[i * 2]? = some (.string x.k) ∧ (prc L)[i * 2 + 1]? = some (.string x.v) := by
  induction L with
  | nil => intro i f h; simp at h
  | cons g l ih =>
    intro i f h
    cases i with
    | zero => simp at h; subst h; simp [prc, Pr.cells]
    | succ i =>
      have := ih i f (by simpa using h)
      rw [prc_cons, show (i + 1) * 2 = i * 2 + 1 + 1 from by omega]
      simpa [Pr.cells] using this
/-- Pairs in memory. -/
def PairsN (W : World) (oa : Option Addr) (L : List Pr) : Prop := ∀ i f, L[i]? = some f → ∃ b o, oa = some ⟨b, o, none⟩ ∧ W.cell? ⟨b, o + i * 2, none⟩ = some (.string f.k) ∧ W.cell? ⟨b, o + i * 2 + 1, none⟩ = some (.string f.v)
theorem PairsN.below {W W' : World} {oa : Option Addr} {L : List Pr} (h : PairsN W oa L) (hn : Below W.heap.size W W') : PairsN W' oa L := by
  intro i f hf
  obtain ⟨b, o, ha, h1, h2⟩ := h i f hf
  have e : W'.heap[b]? = W.heap[b]? := hn.block b (World.block_lt_of_cell? _ _ h1)
  exact ⟨b, o, ha, (cell_eq e).trans h1, (cell_eq e).trans h2⟩
theorem addr_add0 (g j : Nat) : ((⟨g, 0, none⟩ : Addr).add j) = ⟨g, j, none⟩ := by unfold Addr.add; split <;> simp_all
/-- Pairs of one's own, of the type t. -/
def OwnP (t : TypeId) (w : World) (B : Nat) (v : Value) (L : List Pr) : Prop := w.ownsRow B t 2 v L.length (prc L)
theorem OwnP.step {t : TypeId} {w w' : World} {B : Nat} {v : Value} {L : List Pr} (h : OwnP t w B v L) (hb : Below w.heap.size w w') : OwnP t w' B v L := owns_below h hb
theorem OwnP.mono {t : TypeId} {w : World} {B B' : Nat} {v : Value} {L : List Pr} (h : OwnP t w B v L) (hb : B' ≤ B) : OwnP t w B' v L := World.ownsRow.mono h hb
theorem OwnP.nil (t : TypeId) (w : World) (B : Nat) : OwnP t w B (.slice none 0 0) [] := World.ownsRow_nil _ _ _ _
theorem OwnP.form {t : TypeId} {w : World} {B : Nat} {v : Value} {L : List Pr} (h : OwnP t w B v L) : ∃ oa cap, v = .slice oa L.length cap ∧ PairsN w oa L ∧ L.length ≤ cap := by
  rcases h.2 with ⟨rfl, h0⟩ | ⟨g, cap, cur, rfl, hb, hg, h1, h2, _⟩
  · exact ⟨none, 0, by rw [h0], fun i x hx => by rw [List.length_eq_zero_iff.1 h0] at hx; simp at hx, by omega⟩
  · refine ⟨_, cap, rfl, fun i x hx => ?_, h1⟩
    obtain ⟨q1, q2⟩ := prc_get L i x hx
    have hc : ∀ j u, (prc L)[j]? = some u → w.cell? ⟨g, 0 + j, none⟩ = some u := fun j u hu => by
      have := World.ownsRow.cells h (g := g) rfl j u hu
      rw [addr_add0] at this
      simpa using this
    exact ⟨g, 0, rfl, hc _ _ q1, hc _ _ q2⟩
theorem OwnP.app {t : TypeId} {w' : World} {B : Nat} {v : Value} {L : List Pr} {x : Pr} (h : w'.ownsRow B t 2 v (L.length + 1) (prc L ++ x.cells)) : OwnP t w' B v (L ++ [x]) := by
  unfold OwnP
  rw [prc_append, List.length_append]
  exact (by simpa [prc] using h)
theorem pair_info : (Tryd.prog.info? 104).map (fun i => (i.zero, i.size, i.bytes)) = some (some (.agg #[.string ⟨#[]⟩, .string ⟨#[]⟩]), 2, 32) := by kernel_rfl
theorem splitB_le (sep : ByteArray) : ∀ (k : Nat) (s : ByteArray), ∀ x ∈ Lib.splitB sep 0 k s, x.size ≤ s.size
  | 0, s, x, hx => by simp [Lib.splitB] at hx; subst hx; exact Nat.le_refl _
  | k + 1, s, x, hx => by
    unfold Lib.splitB at hx
    split at hx
    · simp at hx; subst hx; exact Nat.le_refl _
    · rcases List.mem_cons.1 hx with rfl | h
      · rw [ByteArray.size_extract]; omega
      · have := splitB_le sep k _ x h
        rw [ByteArray.size_extract] at this
        omega
def partsS (s : ByteArray) (c : UInt8) : List ByteArray := Lib.splitB ⟨#[c]⟩ 0 (Lib.countB s ⟨#[c]⟩) s
theorem partsS_len (s : ByteArray) (c : UInt8) : (partsS s c).length = Lib.countB s ⟨#[c]⟩ + 1 := Lib.splitB_all ⟨#[c]⟩ (Nat.le_refl 1) 0 _ s rfl
theorem partsS_count (s : ByteArray) (c : UInt8) : (partsS s c).length ≤ s.size + 1 := by
  rw [partsS_len]
  have := Lib.countB_le ⟨#[c]⟩ (Nat.le_refl 1) s.size s (Nat.le_refl _)
  omega
theorem partsS_le (s : ByteArray) (c : UInt8) : ∀ x ∈ partsS s c, x.size ≤ s.size := splitB_le _ _ _
/-- Pairs that are read of parts, behind pairs. -/
def parseA : List Pr → List ByteArray → List Pr × Nat
  | acc, [] => (acc, 0)
  | acc, p :: ps => if p.size = 0 then parseA acc ps else if (pairT p).2 ≠ 0 then ([], (pairT p).2) else parseA (acc ++ [(pairT p).1]) ps
def parseT (s : ByteArray) : List Pr × Nat :=
  if (parseA [] (partsS s 38)).2 ≠ 0 then ([], (parseA [] (partsS s 38)).2) else if 64 < (parseA [] (partsS s 38)).1.length then ([], 7) else ((parseA [] (partsS s 38)).1, 0)
def ParsePost (s : ByteArray) (w : World) (e : Ending) (w' : World) : Prop :=
  ∃ v, e = .returned (.tuple #[v, .int .i64 ((parseT s).2 : Nat)]) ∧ OwnP 104 w' w.heap.size v (parseT s).1 ∧ Below w.heap.size w w'
theorem size0 {p : ByteArray} (h : p.size = 0) : p.toList.isEmpty = true := by
  rw [List.isEmpty_iff, ← List.length_eq_zero_iff, ByteArray.toList_eq, ← sz]; exact h
theorem sizeN {p : ByteArray} (h : ¬ p.size = 0) : p.toList.isEmpty = false := by
  cases hq : p.toList.isEmpty with
  | false => rfl
  | true => rw [List.isEmpty_iff, ← List.length_eq_zero_iff, ByteArray.toList_eq, ← sz] at hq; exact absurd hq h
theorem drop_cons' {α : Type} {l : List α} {k : Nat} {x : α} (h : l[k]? = some x) : l.drop k = x :: l.drop (k + 1) := by
  have hk := (List.getElem?_eq_some_iff.1 h).1
  rw [List.drop_eq_getElem_cons hk]
  congr 1
  exact (List.getElem?_eq_some_iff.1 h).2
set_option maxRecDepth 100000 in
set_option maxHeartbeats 8000000 in
theorem parse_any (s : ByteArray) (hs : s.size ≤ 1000000) (w : World) (hM : MaxC w) : Calls Tryd.prog 34 #[.string s] w (ParsePost s w) := by
  obtain ⟨m, hm⟩ := hM
  have HM := Lib.hid (show MaxC w from ⟨m, hm⟩)
  have C := Lib.hid (Tryd.strings_Split s ⟨#[38]⟩ m w (by omega) hm (Nat.le_refl 1))
  obtain ⟨i0, hi0, hz0, hz1, hz2⟩ := info_parts pair_info
  have HI := Lib.hid hi0
  have HZ0 := Lib.hid hz0
  have HZ1 := Lib.hid hz1
  have HZ2 := Lib.hid hz2
  have hpl := partsS_len s 38
  have hpc := partsS_count s 38
  have hple := partsS_le s 38
  rw [← hpl] at C
  change Hid (Calls Tryd.prog 53 #[.string s, .string ⟨#[38]⟩] w fun e w' => e = .returned (.slice (some ⟨w.heap.size, 0, none⟩) (partsS s 38).length (partsS s 38).length) ∧ w' = w.alloc (.cells ((partsS s 38).map Value.string).toArray 9)) at C
  unfold ParsePost
  generalize hT : parseT s = T
  unfold parseT at hT
  generalize partsS s 38 = P at *
  generalize hR : parseA [] P = R at hT
  have HA := Lib.hid hR
  have HT := Lib.hid hT.symm
  have HRW := Lib.hid (heap_alloc_new w (.cells (P.map Value.string).toArray 9))
  have HB0 := Lib.hid ((Below.refl w.heap.size w).alloc (Nat.le_refl _) (.cells (P.map Value.string).toArray 9))
  have hlt0 : w.heap.size < (w.alloc (.cells (P.map Value.string).toArray 9)).heap.size := by simp
  have HPL := Lib.hid hple
  clear hi0 hz0 hz1 hz2 hpl hm hR hple hT
  generalize hnP : P.length = n at *
  have HNP := Lib.hid hnP
  clear hnP
  go_enter Tryd.func34, Tryd.ntmps34
  go_wp2_with (first
    | (go_at_call 53; refine C.out.mono ?_; rintro e w1 ⟨rfl, rfl⟩))
  generalize w.alloc (.cells (P.map Value.string).toArray 9) = w1 at HRW HB0 hlt0 ⊢
  clear C
  go_loopw [4, 12] (fun ov ii wr => ∃ (k : Nat) (acc : List Pr) (vv : Value), ov = vv ∧ ii = .int .i64 k ∧ k ≤ n ∧ acc.length ≤ k ∧ parseA acc (P.drop k) = R ∧ OwnP 104 wr w1.heap.size vv acc ∧ Below w1.heap.size w1 wr) (fun _ ii _ => n - (intOf ii).toNat)
  case atStart => exact ⟨0, [], _, rfl, rfl, by omega, by simp, HA.out, OwnP.nil _ _ _, Below.refl _ _⟩
  case round =>
    obtain ⟨k, acc, v, hv, rfl, hk, hak, hdec, hown, hb⟩ := hrel
    obtain rfl := hv.symm
    have HO := Lib.hid hown
    have HB := Lib.hid hb
    have HD := Lib.hid hdec
    clear hown hb hv hdec HA
    by_cases hlt : k < n
    · have q4 : decide ((k : Int) < (n : Int)) = true := decide_eq_true (by omega)
      have q5 : (k : Int) < (n : Int) := by omega
      have hw5 : IntKind.i64.wrap ((k : Int) + 1) = (k : Int) + 1 := IntWalk.i64_in _ (by omega)
      obtain ⟨p, hpk⟩ : ∃ p, P[k]? = some p := ⟨P[k]'(by rw [HNP.out]; exact hlt), List.getElem?_eq_getElem _⟩
      have hps := HPL.out p (List.mem_of_getElem? hpk)
      have hcell := (cell_of_row wr w.heap.size k _ _ _ ((HB.out.block w.heap.size hlt0).trans HRW.out)).trans (show ((P.map Value.string).toArray)[k]? = some (.string p) from by simp [hpk])
      have HCELL := Lib.hid hcell
      rw [drop_cons' hpk] at HD
      by_cases hz : p.size = 0
      · have hse := size0 hz
        have HD2 := Lib.hid (show parseA acc (P.drop (k + 1)) = R from by have := HD.out; rw [parseA, if_pos hz] at this; exact this)
        clear HD
        go_wp2_with fail
        refine ⟨⟨k + 1, acc, v, rfl, rfl, hlt, by omega, HD2.out, HO.out, HB.out⟩, ?_⟩
        simp [intOf]
        omega
      · have hse := sizeN hz
        have HD2 := Lib.hid (show (if (pairT p).2 ≠ 0 then ([], (pairT p).2) else parseA (acc ++ [(pairT p).1]) (P.drop (k + 1))) = R from by have := HD.out; rw [parseA, if_neg hz] at this; exact this)
        have CP := Lib.hid (pair_any p (by omega) wr (HM.out.below (HB0.out.trans (HB.out.mono HB0.out.size))))
        unfold PairPost at CP
        clear HD
        generalize pairT p = q at HD2 CP
        obtain ⟨⟨kx, vx⟩, ke⟩ := q
        simp only at HD2 CP
        by_cases hke : ke = 0
        · subst hke
          have HD3 := Lib.hid (HD2.out.symm.trans (if_neg (by simp)))
          have hc1 : ∀ u ∈ [Value.string kx, .string vx], u.oneCell' = true := by intro u hu; simp at hu; rcases hu with rfl | rfl <;> rfl
          go_upto_region 9 with (first
            | (go_at_call 57; refine CP.out.mono ?_; rintro e w2 ⟨rfl, hb2⟩; have HB2 := Lib.hid hb2; clear hb2))
          have hr3 := heap_alloc_new w2 (.cells #[.string kx, .string vx] 104)
          have hb3 := HB2.out.alloc HB2.out.size (.cells #[.string kx, .string vx] 104)
          generalize w2.heap.size = b2 at hr3 ⊢
          generalize w2.alloc (.cells #[.string kx, .string vx] 104) = w3 at hr3 hb3 ⊢
          obtain ⟨⟨r0, r1⟩, _, _⟩ := res2 hr3
          have HB3 := Lib.hid (HB.out.trans (hb3.mono HB.out.size))
          have HO3 := Lib.hid (HO.out.step hb3)
          have HSZ := HB3.out.size
          clear hb3 hr3
          have hc2 : acc.length + 1 ≤ maxLen := by unfold maxLen; omega
          have hc3 : (acc.length + 1) * 32 ≤ 140737488355328 := by omega
          go_wp2_with (at_builtin; refine wpList_append_own_at _ rfl _ _ 64 rfl w1.heap.size 104 i0 _ 2 32 Tryd.underlying64 HI.out HZ0.out HZ1.out HZ2.out rfl (by omega) v _ _ rfl (World.ownsRow.alloc HO3.out _) ⟨w3.heap.size, 0, none⟩ 1 1 [Value.string kx, .string vx] rfl rfl (cells_new w3 [Value.string kx, .string vx] _) hc1 hc2 hc3 (by simp; omega) ?_; intro v3 w4 hown3 hg3 _ _; clear hc1 hc2 hc3)
          have B4 := Lib.hid ((HB3.out.alloc HB3.out.size _).grown hg3 (by have := HB3.out.size; simp; omega) (fun q hq => (World.ownsRow.lt HO.out q hq).1))
          have HO4 := Lib.hid (OwnP.app (x := ⟨kx, vx⟩) hown3)
          clear hg3 hown3
          refine ⟨⟨k + 1, acc ++ [⟨kx, vx⟩], _, rfl, rfl, hlt, by rw [List.length_append]; simp; omega, HD3.out.symm, HO4.out, B4.out⟩, ?_⟩
          simp [intOf]
          omega
        · have q6 : ((ke : Int) != 0) = true := by simp; omega
          have HE := Lib.hid (show R = ([], ke) from (HD2.out.symm.trans (if_pos hke)))
          go_wp2_with (first
            | (go_at_call 57; refine CP.out.mono ?_; rintro e w2 ⟨rfl, hb2⟩; have HB2 := Lib.hid hb2; clear hb2))
          refine bodyPost_ret (v := .tuple #[.slice none 0 0, .int .i64 (ke : Int)]) (by simp [results, Tryd.results34, go_sem]) rfl ?_
          have hT2 := HT.out
          rw [HE.out, if_pos hke] at hT2
          rw [hT2]
          exact ⟨_, rfl, OwnP.nil _ _ _, (HB0.out.trans (HB.out.mono HB0.out.size)).trans ((HB2.out.alloc HB2.out.size _).mono (Nat.le_trans HB0.out.size HB.out.size))⟩
    · have q4 : decide ((k : Int) < (n : Int)) = false := decide_eq_false (by omega)
      have HE := Lib.hid (show R = (acc, 0) from by have := HD.out; rw [List.drop_eq_nil_of_le (by rw [HNP.out]; omega)] at this; exact this.symm)
      obtain ⟨oa, cap, rfl, _, _⟩ := HO.out.form
      have HEND := Lib.hid (HB0.out.trans (HB.out.mono HB0.out.size))
      by_cases h64 : 64 < acc.length
      · have q7 : decide ((64 : Int) < (acc.length : Int)) = true := decide_eq_true (by omega)
        go_wp2_with fail
        refine bodyPost_ret (v := .tuple #[.slice none 0 0, .int .i64 7]) (by simp [results, Tryd.results34, go_sem]) rfl ?_
        have hT2 := HT.out
        rw [HE.out, if_neg (by simp), if_pos h64] at hT2
        rw [hT2]
        exact ⟨_, rfl, OwnP.nil _ _ _, HEND.out⟩
      · have q7 : decide ((64 : Int) < (acc.length : Int)) = false := decide_eq_false (by omega)
        go_wp2_with fail
        refine bodyPost_ret (v := .tuple #[.slice oa acc.length cap, .int .i64 0]) (by simp [results, Tryd.results34, go_sem]) rfl ?_
        have hT2 := HT.out
        rw [HE.out, if_neg (by simp), if_neg h64] at hT2
        rw [hT2]
        exact ⟨_, rfl, HO.out.mono HB0.out.size, HEND.out⟩
#print axioms parse_any
end Go.Proofs.YtbpcknjobbjmpaaDoor
