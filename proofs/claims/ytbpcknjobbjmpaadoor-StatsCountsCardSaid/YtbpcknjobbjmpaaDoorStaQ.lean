/- StatsCounts: the walk. -/
import Derived.Test.YtbpcknjobbjmpaaDoorStaO
import Derived.Test.YtbpcknjobbjmpaaDoorStaW
import Derived.Deep.RegionHeld3
namespace Go.Proofs.YtbpcknjobbjmpaaDoor
open Go.RowKit
set_option linter.unusedVariables false
set_option linter.unusedSimpArgs false

theorem IntsN.below {W W' : World} {oa : Option Addr} {n : Nat} {H : Nat → Int} (h : IntsN W oa n H) (hn : Below W.heap.size W W') : IntsN W' oa n H := by
  intro i hi
  obtain ⟨a, ha, hc⟩ := h i hi
  exact ⟨a, ha, (cell_eq (hn.block _ (World.block_lt_of_cell? _ _ hc))).trans hc⟩
theorem StrsN.near {p : Nat} {W W' : World} {oa : Option Addr} {L : List ByteArray} (h : StrsN W oa L) (hp : ∀ a, oa = some a → a.block ≠ p) (hn : Near p W.heap.size W W') : StrsN W' oa L := by
  intro i s hi
  obtain ⟨a, ha, hc⟩ := h i s hi
  refine ⟨a, ha, (cell_eq (hn.block _ (World.block_lt_of_cell? _ _ hc) ?_)).trans hc⟩
  have : (a.add i).block = a.block := by unfold Addr.add; split <;> rfl
  rw [this]
  exact hp a ha
theorem Near.step {p B : Nat} {a w w' : World} (h : Near p B a w) (hB : B ≤ w.heap.size) (k : Below w.heap.size w w') : Near p B a w' := h.trans (Near.of (k.mono hB))
theorem Near.size2 {p B : Nat} {a w : World} (h : Near p B a w) (hB : B ≤ a.heap.size) : B ≤ w.heap.size := Nat.le_trans hB h.size
theorem sub_lt5 {A : Nat → Int} {V : List Fat} (h : ∀ i, A i = cellA V i) : A = cellA V := funext h
set_option maxRecDepth 100000 in
set_option maxHeartbeats 20000000 in
theorem statsCounts_any (oa : Option Addr) (n cap : Nat) (L : List Fat) (hn : L.length = n) (kind cost : Int) (w : World) (hT : Tab w) (hf : FatesN w oa L) (hkw : (Lit.int .i64 kind).wf = true) (hcw : (Lit.int .i64 cost).wf = true) :
    Calls Tryd.prog 3 #[.slice oa n cap, .int .i64 kind, .int .i64 cost] w fun e w' => e = .returned (.bool true) ∧ Below w.heap.size w w' := by
  have HT := Lib.hid hT
  have HF := Lib.hid hf
  clear hT hf
  by_cases hl : 100 < n
  · have q1 : decide ((100 : Int) < (n : Int)) = true := decide_eq_true (by omega)
    go_enter Tryd.func3, Tryd.ntmps3
    go_wp2_with (first
      | (go_at_call 8; refine (awake_any _ HT.out).mono ?_; rintro e w6 ⟨rfl, hb⟩; have HB6 := Lib.hid hb; clear hb))
    go_ret
    exact ⟨rfl, HB6.out⟩
  have q1 : decide ((100 : Int) < (n : Int)) = false := decide_eq_false (by omega)
  go_enter Tryd.func3, Tryd.ntmps3
  go_wp2_with (first
    | (go_at_call 9; refine (new_any _).mono ?_; rintro e w1 ⟨rfl, hB1, hb1⟩; have HB1 := Lib.hid hB1; have HL1 := Lib.hid hb1; clear hB1 hb1; generalize hpp : w.heap.size = p at HB1 HL1 ⊢))
  have HPP := Lib.hid hpp
  clear hpp
  go_loopw [8, 9] (fun mv ii wr => ∃ (k : Nat) (V : List Fat) (vv : Value), mv = vv ∧ ii = .int .i64 k ∧ k ≤ n ∧ V.length ≤ k ∧ (∀ f ∈ V, f.ok = true) ∧ OwnT wr (p + 1) vv V ∧ Brd p wr 0 0 (.slice none 0 0) 0 (cellA V) ∧ Below p w wr) (fun _ ii _ => n - (intOf ii).toNat)
  case atStart => exact ⟨0, [], _, rfl, rfl, by omega, by simp, by simp, OwnT.nil _ _, HB1.out.cong (fun i _ => (cellA_nil i).symm), HL1.out⟩
  case round =>
    obtain ⟨k, V, vv, hvv, rfl, hk, hVk, hok, hown, hbrd, hb⟩ := hrel
    obtain rfl := hvv.symm
    have HOK := Lib.hid hok
    have HO := Lib.hid hown
    have HBR := Lib.hid hbrd
    have HB := Lib.hid hb
    clear hok hown hbrd hb hvv
    by_cases hlt : k < n
    · have q4 : decide ((k : Int) < (n : Int)) = true := decide_eq_true (by omega)
      have q5 : (k : Int) < (n : Int) := by omega
      have hw5 : IntKind.i64.wrap ((k : Int) + 1) = (k : Int) + 1 := IntWalk.i64_in _ (by omega)
      obtain ⟨f, hfk⟩ : ∃ f, L[k]? = some f := ⟨L[k]'(by omega), List.getElem?_eq_getElem _⟩
      obtain ⟨b, o, rfl, c1, c2, c3, c4⟩ := (HF.out.below (HPP.out.symm ▸ HB.out)) k f hfk
      have C1 := Lib.hid (count_any p f 0 0 (.slice none 0 0) 0 (cellA V) wr HBR.out (cellA_le V HOK.out (by omega)))
      have C2 := Lib.hid (fun W hW hO => dcount_any (p + 1) vv V (by omega) HOK.out f W hW hO)
      have hplt := HBR.out.lt
      unfold CountPost Fat.val at C1
      unfold DCountPost Fat.val at C2
      have hbp : b < p := by
        have := (HF.out) k f hfk
        obtain ⟨b', o', e, d1, _⟩ := this
        obtain ⟨rfl, rfl⟩ : b = b' ∧ o = o' := by simpa using e
        have := World.block_lt_of_cell? _ _ d1
        rw [← HPP.out]; exact this
      go_wp2_with (first
        | (go_at_call 10; refine C1.out.mono ?_; rintro e w2 ⟨rfl, hB2, hN2⟩; have HBR2 := Lib.hid hB2; have HN2 := Lib.hid hN2; have d1 := (cell_eq (a := ⟨b, _, none⟩) (hN2.block b (by omega) (by omega))).trans c1; have d2 := (cell_eq (a := ⟨b, _, none⟩) (hN2.block b (by omega) (by omega))).trans c2; have d3 := (cell_eq (a := ⟨b, _, none⟩) (hN2.block b (by omega) (by omega))).trans c3; have d4 := (cell_eq (a := ⟨b, _, none⟩) (hN2.block b (by omega) (by omega))).trans c4; clear hB2 hN2 c1 c2 c3 c4)
        | (go_at_call 11; refine (C2.out _ (Nat.le_trans hplt HN2.out.size) (HO.out.near (Nat.lt_succ_self p) HN2.out)).mono ?_; rintro e w3 ⟨v3, rfl, hO3, hb3⟩; have HO3 := Lib.hid hO3; have HB3 := Lib.hid hb3; clear hO3 hb3))
      refine ⟨⟨k + 1, accN V f, v3, rfl, rfl, hlt, ?_, ?_, HO3.out, ?_, ?_⟩, ?_⟩
      · unfold accN; split
        · rw [List.length_append]; simp; omega
        · omega
      · intro g hg
        unfold accN at hg
        split at hg
        · rename_i hfo
          rcases List.mem_append.1 hg with h | h
          · exact HOK.out g h
          · simp at h; subst h; exact hfo
        · exact HOK.out g hg
      · refine (HBR2.out.below HBR2.out.lt HB3.out).cong fun i hi => ?_
        unfold accN
        by_cases hfo : f.ok = true
        · rw [if_pos hfo, if_pos hfo]; exact count_cells V f hfo i hi
        · rw [if_neg hfo, if_neg hfo]
      · exact (HB.out.trans (HN2.out.below hplt)).trans (HB3.out.mono (Nat.le_trans (Nat.le_of_lt hplt) HN2.out.size))
      · simp [intOf]
        omega
    · have q4 : decide ((k : Int) < (n : Int)) = false := decide_eq_false (by omega)
      obtain rfl : k = n := by omega
      have hplt := HBR.out.lt
      obtain ⟨om, cm, rfl, _⟩ := HO.out.fates
      have HOF := Lib.hid (show ∀ W, Near p wr.heap.size wr W → FatesN W om V from fun W hW => by
        obtain ⟨om', cm', e, hf⟩ := (HO.out.near (Nat.lt_succ_self p) hW).fates
        obtain ⟨rfl, _, rfl⟩ := Value.slice.inj e
        exact hf)
      have HA := Lib.hid (cellA_le V HOK.out (by omega))
      have D1 := Lib.hid (fun W hW => dof_any om _ cm V rfl (by omega) HOK.out kind W hW)
      have D2 := Lib.hid (fun W hW => dall_any om _ cm V rfl (by omega) HOK.out W hW)
      have D3 := Lib.hid (fun W hW => dhist_any om _ cm V rfl (by omega) HOK.out W hW)
      have D4 := Lib.hid (fun W hW => dshare_any om _ cm V rfl (by omega) HOK.out kind W hW)
      have D5 := Lib.hid (fun W hW => dlines_any om _ cm V rfl (by omega) HOK.out W hW)
      have E1 := Lib.hid (fun W d nv bt hW => of_any p kind d 0 nv bt (cellA V) W hW)
      have E2 := Lib.hid (fun W d nv bt hW => all_any p d 0 nv bt (cellA V) W hW)
      have E3 := Lib.hid (fun W d nv bt hW => hist_any p d 0 nv bt (cellA V) W hW)
      have E4 := Lib.hid (fun W d nv bt hW => share_any p kind d 0 nv bt (cellA V) W hW (by have := HA.out 0; omega) (by rw [(kn_of V kind).1]; have := dofT_bound V kind HOK.out; omega))
      have E5 := Lib.hid (fun W hT hW => lines_first p (cellA V) HA.out (.slice none 0 0) 0 (by omega) W hT hW)
      have E6 := Lib.hid (fun W nv bt hT hW hN => lines_again p (cellA V) HA.out nv bt W hT hW hN)
      obtain ⟨u0, u1, u2⟩ := allA_of V
      rw [kindA_of] at E1
      rw [u0, u1, u2] at E2
      rw [share_of] at E4
      unfold LinesPost at E5 E6
      rw [lines_of] at E5 E6
      unfold DLinesPost at D5
      unfold HistPost at E3
      unfold DHistPost at D3
      have hh : (fun j => cellA V (18 + j)) = fun j => hst j V := funext fun j => hist_of V j
      rw [hh] at E3
      have HLL := linesL_len (dnat V) 5
      unfold Tal.val at D1 D2 E1
      unfold sumV at E2
      generalize linesL (dnat V) 5 = LL at *
      generalize (fun j => hst j V) = HH at *
      generalize dshareN V kind = SH at *
      generalize dofT V kind = T at *
      generalize sumT V (-1) = U at *
      clear hh u0 u1 u2
      go_wp2_with (first
        | (go_at_call 12; refine (D1.out _ (HOF.out _ (Near.refl _ _ _))).mono ?_; rintro e w2 ⟨rfl, hb⟩; have HB2 := Lib.hid hb; clear hb))
      have hrow3 := heap_alloc_new w2 (.cells #[.int .i64 T.n, .int .i64 T.c, .int .i64 T.m] 34)
      have hb3 := HB2.out.alloc HB2.out.size (.cells #[.int .i64 T.n, .int .i64 T.c, .int .i64 T.m] 34)
      have hb2w : wr.heap.size ≤ w2.heap.size := HB2.out.size
      generalize hbb : w2.heap.size = b2 at hrow3 hb2w ⊢
      generalize w2.alloc (.cells #[.int .i64 T.n, .int .i64 T.c, .int .i64 T.m] 34) = w3 at hb3 hrow3 ⊢
      have hlt3 : b2 < w3.heap.size := (Array.getElem?_eq_some_iff.1 hrow3).1
      have HS := Lib.hid (show ∀ W : World, Near p w3.heap.size w3 W → W.cell? ⟨b2, 0, none⟩ = some (.int .i64 T.n) ∧ W.cell? ⟨b2, 1, none⟩ = some (.int .i64 T.c) ∧ W.cell? ⟨b2, 2, none⟩ = some (.int .i64 T.m) from fun W hW => (res3 ((hW.block b2 hlt3 (by omega)).trans hrow3)).1)
      have HQ := Lib.hid (show ∀ W : World, Near p w3.heap.size w3 W → FatesN W om V from fun W hW => HOF.out W ((Near.of hb3).trans (hW.mono hb3.size)))
      have HTB := Lib.hid (show ∀ W : World, Near p w3.heap.size w3 W → TabB p W from fun W hW => (TabB.of HT.out (HPP.out.symm ▸ ((HB.out.trans (hb3.mono (Nat.le_of_lt hplt))).trans (hW.below (by omega))))).mono (Nat.le_of_eq HPP.out))
      have HEND := Lib.hid (show ∀ W : World, Near p w3.heap.size w3 W → Below w.heap.size w W from fun W hW => (HPP.out.symm ▸ ((HB.out.trans (hb3.mono (Nat.le_of_lt hplt))).trans (hW.below (by omega)))))
      have HBr : Brd p w3.drew 0 0 (.slice none 0 0) 0 (cellA V) := (HBR.out.below hplt hb3).step rfl
      have HNr := (Near.refl p w3.heap.size w3).drew
      clear hb3 hrow3 hbb HOF HB2 HBR HB HO HF
      go_region_held3 (fun W => W.cell? ⟨b2, 0, none⟩ = some (.int .i64 T.n) ∧ W.cell? ⟨b2, 1, none⟩ = some (.int .i64 T.c) ∧ W.cell? ⟨b2, 2, none⟩ = some (.int .i64 T.m)) (first | exact HS.out _ HNr) (first
        | (go_at_call 13; (with_reducible refine (E1.out _ _ _ _ HBr).mono ?_); rintro e w' ⟨rfl, hb⟩; have HNr := HNr.step (HNr.size2 (Nat.le_refl _)) hb; have HBr := HBr.below HBr.lt hb; clear hb)
        | (go_at_call 14; (with_reducible refine (E2.out _ _ _ _ HBr).mono ?_); rintro e w' ⟨rfl, hb⟩; have HNr := HNr.step (HNr.size2 (Nat.le_refl _)) hb; have HBr := HBr.below HBr.lt hb; clear hb)
        | (go_at_call 15; (with_reducible refine (D2.out _ (HQ.out _ HNr)).mono ?_); rintro e w' ⟨rfl, hb⟩; have HNr := HNr.step (HNr.size2 (Nat.le_refl _)) hb; have HBr := HBr.below HBr.lt hb; clear hb)
        | (go_at_call 17; (with_reducible refine (E3.out _ _ _ _ HBr).mono ?_); rintro e w' ⟨va, rfl, hT, hb⟩; have HNr := HNr.step (HNr.size2 (Nat.le_refl _)) hb; have HBr := HBr.below HBr.lt hb; obtain ⟨oa1, rfl, HIa⟩ := hT.ints; clear hb hT)
        | (go_at_call 18; (with_reducible refine (D3.out _ (HQ.out _ HNr)).mono ?_); rintro e w' ⟨va, rfl, hT, hb⟩; have HNr := HNr.step (HNr.size2 (Nat.le_refl _)) hb; have HBr := HBr.below HBr.lt hb; obtain ⟨ob1, rfl, HIb⟩ := hT.ints; have HIa := HIa.below hb; clear hb hT)
        | (go_at_call 16; (with_reducible refine (sameInts_any _ _ 12 12 12 HH HH (fun _ _ => rfl) (by omega) _ HIa HIb).mono ?_); rintro e w' ⟨rfl, hb⟩; have HNr := HNr.step (HNr.size2 (Nat.le_refl _)) hb; have HBr := HBr.below HBr.lt hb; clear hb HIa HIb)
        | (go_at_call 19; (with_reducible refine (E4.out _ _ _ _ HBr).mono ?_); rintro e w' ⟨rfl, hb⟩; have HNr := HNr.step (HNr.size2 (Nat.le_refl _)) hb; have HBr := HBr.below HBr.lt hb; clear hb)
        | (go_at_call 20; (with_reducible refine (D4.out _ (HQ.out _ HNr)).mono ?_); rintro e w' ⟨rfl, hb⟩; have HNr := HNr.step (HNr.size2 (Nat.le_refl _)) hb; have HBr := HBr.below HBr.lt hb; clear hb)
        | (go_at_call 22; first
            | ((with_reducible refine (E5.out _ (HTB.out _ HNr) HBr).mono ?_); rintro e w' ⟨v, nv, rfl, hO, hB, HNV, hN⟩; obtain ⟨oa5, cp5, rfl, HSa⟩ := hO.form; have HNr := HNr.trans (hN.mono (HNr.size2 (Nat.le_refl _))); have HBr : Brd p w' 1 0 nv 1 (cellA V) := hB; clear hN hO hB)
            | ((with_reducible refine (E6.out _ _ _ (HTB.out _ HNr) HBr HNV).mono ?_); rintro e w' ⟨v, nv, rfl, hO, hB, HNV, hN⟩; obtain ⟨oa5, cp5, rfl, HSa⟩ := hO.form; have HNr := HNr.trans (hN.mono (HNr.size2 (Nat.le_refl _))); have HBr : Brd p w' 1 0 nv 1 (cellA V) := hB; clear hN hO hB))
        | (go_at_call 23; (with_reducible refine (D5.out _ (HQ.out _ HNr)).mono ?_); rintro e w' ⟨v, rfl, hO, hb⟩; have HNr := HNr.step (HNr.size2 (Nat.le_refl _)) hb; have HBr := HBr.below HBr.lt hb; have HNV := HNV.near (Near.of hb); obtain ⟨ob5, cq5, rfl, HSb⟩ := hO.form; have HSa := HSa.below hb; clear hb hO)
        | (go_at_call 21; (with_reducible refine (sameLines_any _ _ 5 _ _ LL HLL (by omega) _ HSa HSb).mono ?_); rintro e w' ⟨rfl, hb⟩; have HNr := HNr.step (HNr.size2 (Nat.le_refl _)) hb; have HBr := HBr.below HBr.lt hb; have HNV := HNV.near (Near.of hb); clear hb HSa HSb)
        | (go_at_call 24; (with_reducible refine (built_any p 1 0 _ 1 (cellA V) _ HBr).mono ?_); rintro e w' ⟨rfl, rfl⟩)
        | (go_at_call 25; (with_reducible refine (size_any cost hcw _).mono ?_); rintro e w' ⟨rfl, rfl⟩)
        | (go_at_call 26; (with_reducible refine (dsize_any cost hcw _).mono ?_); rintro e w' ⟨rfl, rfl⟩)
        | (go_at_call 8; (with_reducible refine (awake_any _ (HTB.out _ HNr).tab).mono ?_); rintro e w' ⟨rfl, hb⟩; have HNr := HNr.step (HNr.size2 (Nat.le_refl _)) hb; have HBr := HBr.below HBr.lt hb; clear hb))
      all_goals
        go_wp2_with fail
        go_ret
        exact ⟨rfl, HEND.out _ HNr⟩
#print axioms statsCounts_any
end Go.Proofs.YtbpcknjobbjmpaaDoor
