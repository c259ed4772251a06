/- ReprLongs: the walk. -/
import Derived.Test.YtmnaljnkgaebkaaRepN
import Derived.Test.YtmnaljnkgaebkaaRepO
namespace Go.Proofs.Ytmnaljnkgaebkaa
open Go.RowKit
set_option linter.unusedVariables false
set_option linter.unusedSimpArgs false

theorem put_head (K : Nat) (hK : K ≤ 268435455) : ∃ c l, putN 128 7 K = c :: l ∧ putN 0 7 K = (c % 128) :: l ∧ c < 256 ∧ ∀ x ∈ l, x < 256 := by
  unfold putN
  have e1 : restN 128 7 = 128 := by decide
  have e2 : restN 0 7 = 0 := by decide
  rw [e1, e2]
  by_cases h : K < 2 ^ 7 - 1
  · rw [if_pos h, if_pos h]
    exact ⟨_, _, rfl, by congr 1; omega, by omega, by simp⟩
  · rw [if_neg h, if_neg h]
    exact ⟨_, _, rfl, by congr 1, by omega, groupsN_byte _⟩
theorem bytes_head {W : World} {g c c' : Nat} {l : List Nat} (h : BytesN W (some ⟨g, 0, none⟩) (c :: l)) : BytesN (W.setCell ⟨g, 0, none⟩ (.int .u8 (c' : Int))) (some ⟨g, 0, none⟩) (c' :: l) := by
  intro i hi
  refine ⟨_, rfl, ?_⟩
  cases i with
  | zero => 
    obtain ⟨b, o, e, hc⟩ := h.at (i := 0) (by simp)
    obtain ⟨rfl, rfl, _⟩ := Addr.mk.inj (Option.some.inj e)
    rw [Addr.add_lit]
    exact World.cell?_setCell_same _ _ _ hc
  | succ i =>
    obtain ⟨b, o, e, hc⟩ := h.at (i := i + 1) (by simpa using hi)
    obtain ⟨rfl, rfl, _⟩ := Addr.mk.inj (Option.some.inj e)
    rw [Addr.add_lit]
    refine (World.cell?_setCell_other _ _ _ _ (fun e => ?_)).trans (by simpa using hc)
    simp at e
theorem getD_cons (c : Nat) (l : List Nat) (hc : c < 256) (hl : ∀ x ∈ l, x < 256) : ∀ i, i < (c :: l).length → (c :: l).getD i 0 < 256 := by
  intro i hi
  rw [List.getD_eq_getElem?_getD, List.getElem?_eq_getElem hi, Option.getD_some]
  rcases List.mem_cons.1 (List.getElem_mem hi) with h | h
  · omega
  · exact hl _ h
theorem groups_small (K : Nat) (hK : K ≤ 268435455) : (putN 128 7 K).length ≤ 6 := by
  unfold putN
  split
  · simp
  · have := groupsN_le 3 (K - (2 ^ 7 - 1)) (by omega)
    simp only [List.length_cons]
    omega
def LongPost (K : Nat) (w : World) (e : Ending) (w' : World) : Prop := ∃ g cap n, e = .returned (.tuple #[.slice (some ⟨g, 0, none⟩) n cap, .int .i64 0]) ∧ n = (putN 128 7 K).length ∧ BytesN w' (some ⟨g, 0, none⟩) (putN 128 7 K) ∧ n ≤ cap ∧ w.heap.size ≤ g ∧ w'.frozen? ⟨g, 0, none⟩ = false ∧ Below w.heap.size w w'
theorem put_long (K : Nat) (h1 : 1 ≤ K) (hK : K ≤ 268435455) (w : World) : Calls Try.prog 43 #[.agg #[.int .u8 0, .int .i64 (K : Int), .string ⟨#[]⟩, .string ⟨#[]⟩]] w (LongPost K w) :=
  (rput_any 0 K ⟨#[]⟩ ⟨#[]⟩ (by omega) w).mono (by
    have hck : chkI ⟨0, K, ⟨#[]⟩, ⟨#[]⟩⟩ = 0 := by
      unfold chkI
      simp only
      rw [if_neg (by omega), if_neg (by omega), if_neg (by unfold extraI; simp [litK]), if_neg (by rintro (h | h) <;> exact absurd h (by decide))]
    have hit : itemN ⟨0, K, ⟨#[]⟩, ⟨#[]⟩⟩ = putN 128 7 K := by simp [itemN, formF, formB, litK]
    rintro e w' (⟨h, _⟩ | ⟨_, v, rfl, ho, hb⟩)
    · exact absurd hck h
    · rw [hit] at ho
      have hlen := (putN_len 128 7 K hK).1
      obtain ⟨g, cap, rfl, h⟩ := OwnB.has ho hlen
      refine ⟨g, cap, _, rfl, rfl, h.2.1, h.2.2.1, h.2.2.2.1, ?_, hb⟩
      rcases h.1.2 with ⟨hv, _⟩ | ⟨g', cap', cur, hv, _, hg, _⟩
      · cases hv
      · obtain ⟨e1, _, _⟩ := Value.slice.inj hv
        obtain ⟨rfl, _, _⟩ := Addr.mk.inj (Option.some.inj e1)
        exact frozen_of_row _ _ _ _ _ hg)
set_option maxRecDepth 100000 in
set_option maxHeartbeats 4000000 in
theorem reprLongs_any (a : Int) (fb : Bool) (w : World) (ha : (Lit.int .u32 a).wf = true) : Calls Try.prog 12 #[.int .u32 a, .bool fb] w fun e w' => e = .returned (.bool true) ∧ Below w.heap.size w w' := by
  obtain ⟨h0, h1⟩ : 0 ≤ a ∧ a ≤ 4294967295 := by have e1 : IntKind.u32.min = 0 := rfl; have e2 : IntKind.u32.max = 4294967295 := rfl; simp only [Lit.wf, Bool.and_eq_true, decide_eq_true_eq, e1, e2] at ha; omega
  obtain ⟨n, rfl⟩ : ∃ n : Nat, a = n := ⟨a.toNat, by omega⟩
  obtain ⟨K, hK, hK1, hK2⟩ : ∃ K : Nat, max 1 ((n : Int) % 268435456) = (K : Int) ∧ 1 ≤ K ∧ K ≤ 268435455 := ⟨max 1 (n % 268435456), by omega, by omega, by omega⟩
  go_enter Try.func12, Try.ntmps12
  go_upto_region 3 with fail
  refine (put_long K hK1 hK2 _).mono ?_
  rintro e w1 ⟨g, cap, ln, rfl, hln, hby, hcp, hg, hz, hb⟩
  obtain ⟨c, l, hp1, hp2, hc256, hl256⟩ := put_head K hK2
  rw [hp1] at hln hby
  have HT1 := Lib.hid (textG_cut 128 K hK1)
  have HT2 := Lib.hid (textG_long 128 K hK2)
  have HT3 := Lib.hid (textG_cut 0 K hK1)
  have HT4 := Lib.hid (textG_long 0 K hK2)
  have hlen := (putN_len 128 7 K hK2).2
  rw [hp1] at HT1 HT2 hlen
  rw [hp2] at HT3 HT4
  have HLN := Lib.hid (show (c :: l).length = ln from hln.symm)
  have HLN2 := Lib.hid (show (c % 128 :: l).length = ln from hln.symm)
  have hln1 : ln ≤ 1000000 := by have := groups_small K hK2; rw [hp1] at this; omega
  have H256 := Lib.hid (show ∀ i, i < (c :: l).length → (c :: l).getD i 0 < 256 from getD_cons c l hc256 hl256)
  have H257 := Lib.hid (show ∀ i, i < (c % 128 :: l).length → (c % 128 :: l).getD i 0 < 256 from getD_cons (c % 128) l (by omega) hl256)
  have HBY := Lib.hid hby
  have HB := Lib.hid hb
  have HA := Lib.hid (show ∀ W, Below w.heap.size w W → Calls Try.prog 42 #[] W fun e w' => e = .returned (.bool true) ∧ Below w.heap.size w w' from fun W h => (awake05_any W).mono (by rintro e w' ⟨rfl, h2⟩; exact ⟨rfl, h.trans (h2.mono h.size)⟩))
  obtain ⟨b', o', e, hc0⟩ := hby.at (i := 0) (by simp)
  obtain ⟨rfl, rfl, _⟩ := Addr.mk.inj (Option.some.inj e)
  simp only [List.getD_cons_zero, Nat.add_zero] at hc0
  have hand := u8_and127 c hc256
  have hlp : (0 : Int) < (ln : Int) := by have := HLN.out; simp at this; omega
  have hl1 : decide ((ln : Int) < 1) = false := decide_eq_false (by omega)
  clear e hby hb hln hp1 hp2 hlen
  have HBS := Lib.hid (HB.out.setCell (show w.heap.size ≤ (⟨g, 0, none⟩ : Addr).block from hg) (.int .u8 ((c % 128 : Nat) : Int)))
  have HBY2 := Lib.hid (bytes_head (c' := c % 128) HBY.out)
  by_cases hK4 : 4096 < K
  · have q4 : decide ((4096 : Int) < (K : Int)) = true := decide_eq_true (by omega)
    have H5 := Lib.hid (HT2.out hK4)
    have H6 := Lib.hid (HT4.out hK4)
    cases fb
    · have HG := Lib.hid (getText_any (some ⟨g, 0, none⟩) ln cap _ HLN2.out hcp hln1 _ HBY2.out H257.out)
      unfold TextGPost at HG
      generalize textG (c % 128 :: l) = t at HG H6
      obtain ⟨s, k2, er⟩ := t
      obtain rfl : er = 5 := H6.out
      go_wp2_with fail
      refine HG.out.mono ?_
      rintro e w2 ⟨rfl, hb⟩
      have HB2 := Lib.hid (HBS.out.trans (hb.mono HBS.out.size))
      clear hb
      go_wp2_with fail
      refine (HA.out _ HB2.out).mono ?_
      rintro e w3 ⟨rfl, hb⟩
      go_wp2_with fail
      go_ret
      exact ⟨rfl, hb⟩
    · have HG := Lib.hid (getText_any (some ⟨g, 0, none⟩) ln cap _ HLN.out hcp hln1 _ HBY.out H256.out)
      unfold TextGPost at HG
      generalize textG (c :: l) = t at HG H5
      obtain ⟨s, k2, er⟩ := t
      obtain rfl : er = 5 := H5.out
      go_wp2_with fail
      refine HG.out.mono ?_
      rintro e w2 ⟨rfl, hb⟩
      have HB2 := Lib.hid (HB.out.trans (hb.mono HB.out.size))
      clear hb
      go_wp2_with fail
      refine (HA.out _ HB2.out).mono ?_
      rintro e w3 ⟨rfl, hb⟩
      go_wp2_with fail
      go_ret
      exact ⟨rfl, hb⟩
  · have q4 : decide ((4096 : Int) < (K : Int)) = false := decide_eq_false (by omega)
    have H5 := Lib.hid (HT1.out (by omega))
    have H6 := Lib.hid (HT3.out (by omega))
    cases fb
    · have HG := Lib.hid (getText_any (some ⟨g, 0, none⟩) ln cap _ HLN2.out hcp hln1 _ HBY2.out H257.out)
      unfold TextGPost at HG
      generalize textG (c % 128 :: l) = t at HG H6
      obtain ⟨s, k2, er⟩ := t
      obtain rfl : er = 3 := H6.out
      go_wp2_with fail
      refine HG.out.mono ?_
      rintro e w2 ⟨rfl, hb⟩
      have HB2 := Lib.hid (HBS.out.trans (hb.mono HBS.out.size))
      clear hb
      go_wp2_with fail
      refine (HA.out _ HB2.out).mono ?_
      rintro e w3 ⟨rfl, hb⟩
      go_wp2_with fail
      go_ret
      exact ⟨rfl, hb⟩
    · have HG := Lib.hid (getText_any (some ⟨g, 0, none⟩) ln cap _ HLN.out hcp hln1 _ HBY.out H256.out)
      unfold TextGPost at HG
      generalize textG (c :: l) = t at HG H5
      obtain ⟨s, k2, er⟩ := t
      obtain rfl : er = 3 := H5.out
      go_wp2_with fail
      refine HG.out.mono ?_
      rintro e w2 ⟨rfl, hb⟩
      have HB2 := Lib.hid (HB.out.trans (hb.mono HB.out.size))
      clear hb
      go_wp2_with fail
      refine (HA.out _ HB2.out).mono ?_
      rintro e w3 ⟨rfl, hb⟩
      go_wp2_with fail
      go_ret
      exact ⟨rfl, hb⟩
#print axioms reprLongs_any
end Go.Proofs.Ytmnaljnkgaebkaa
