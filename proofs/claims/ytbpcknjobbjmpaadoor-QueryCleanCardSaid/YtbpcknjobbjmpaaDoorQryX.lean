/- What is encoded is decoded: plain laws, and QueryBack's walk. -/
import Derived.Test.YtbpcknjobbjmpaaDoorQryW
namespace Go.Proofs.YtbpcknjobbjmpaaDoor
open Go.RowKit
set_option linter.unusedVariables false
set_option linter.unusedSimpArgs false

theorem it37 : itN 37 = false := by decide
theorem hex_dig : ∀ n : Fin 16, dgOk (hexN n.val) = true ∧ dgN (hexN n.val) = n.val := by decide +kernel
theorem dec_enc1 (acc : List Nat) (c : Nat) (hc : c < 256) (l : List Nat) : decL acc (enc1 c ++ l) = decL (acc ++ [c]) l := by
  unfold enc1
  by_cases h : itN c = true
  · rw [if_pos h]
    have h37 : c ≠ 37 := fun e => by rw [e, it37] at h; cases h
    exact decL_plain acc c l h37
  · rw [if_neg h]
    obtain ⟨a1, a2⟩ := hex_dig ⟨c / 16, by omega⟩
    obtain ⟨b1, b2⟩ := hex_dig ⟨c % 16, by omega⟩
    simp only at a1 a2 b1 b2
    show decL acc (37 :: hexN (c / 16) :: hexN (c % 16) :: l) = _
    rw [decL_code, a1, b1, a2, b2, if_pos (show (true && true) = true from rfl)]
    congr 3
    omega
theorem dec_enc : ∀ (l : List Nat) (acc : List Nat), (∀ x ∈ l, x < 256) → decL acc (encL l) = (acc ++ l, 0)
  | [], acc, _ => by rw [show encL [] = [] from rfl, decL_nil, List.append_nil]
  | c :: l, acc, h => by
    have e : encL (c :: l) = enc1 c ++ encL l := by simp [encL]
    rw [e, dec_enc1 acc c (h c (by simp)), dec_enc l _ (fun x hx => h x (by simp [hx]))]
    simp
theorem bytesU_bsB (l : List Nat) (h : ∀ x ∈ l, x < 256) : bytesU (bsB l) = l := by
  unfold bytesU bsB
  simp only [List.map_map]
  refine (List.map_congr_left (g := id) fun x hx => ?_).trans (List.map_id _)
  have := h x hx
  simp
  omega
theorem bsB_bytesU (s : ByteArray) : bsB (bytesU s) = s := by
  unfold bytesU bsB
  rw [List.map_map]
  have : (s.data.toList.map (UInt8.ofNat ∘ UInt8.toNat)) = s.data.toList := by
    refine (List.map_congr_left (g := id) fun x hx => ?_).trans (List.map_id _)
    simp
  rw [this]
theorem qdec_enc (s : ByteArray) : qdec (encS s) = (s, 0) := by
  unfold qdec encS
  rw [bytesU_bsB _ (encL_lt _ (bytesU_lt s)), dec_enc _ _ (bytesU_lt s)]
  simp only [List.nil_append]
  rw [bsB_bytesU]
theorem encS_inj {s t : ByteArray} (h : encS s = encS t) : s = t := by
  have := congrArg qdec h
  rw [qdec_enc, qdec_enc] at this
  exact congrArg Prod.fst this
def okB (y : Nat) : Bool := decide (32 < y) && decide (y ≤ 126) && decide (y ≠ 47) && decide (y ≠ 63) && decide (y ≠ 38) && decide (y ≠ 61) && decide (y ≠ 43)
theorem ok_it : ∀ c : Fin 256, itN c.val = true → okB c.val = true := by decide +kernel
theorem ok_hex : ∀ n : Fin 16, okB (hexN n.val) = true := by decide
theorem ok_enc (l : List Nat) (h : ∀ x ∈ l, x < 256) : ∀ y ∈ encL l, okB y = true := by
  intro y hy
  unfold encL at hy
  obtain ⟨c, hc, hy⟩ := List.mem_flatMap.1 hy
  have hc := h c hc
  unfold enc1 at hy
  split at hy
  · rename_i hi
    simp at hy
    subst hy
    exact ok_it ⟨y, hc⟩ hi
  · simp at hy
    rcases hy with rfl | rfl | rfl
    · decide
    · exact ok_hex ⟨c / 16, by omega⟩
    · exact ok_hex ⟨c % 16, by omega⟩
theorem okB_iff (y : Nat) (h : okB y = true) : 32 < y ∧ y ≤ 126 ∧ y ≠ 47 ∧ y ≠ 63 ∧ y ≠ 38 ∧ y ≠ 61 ∧ y ≠ 43 := by
  unfold okB at h
  simp only [Bool.and_eq_true, decide_eq_true_eq] at h
  obtain ⟨⟨⟨⟨⟨⟨a, b⟩, c⟩, d⟩, e⟩, f⟩, g⟩ := h
  exact ⟨a, b, c, d, e, f, g⟩
theorem encS_at (s : ByteArray) (k : Nat) (h : k < (encS s).size) : okB ((encS s)[k].toNat) = true := by
  have h1 := bytesU_at (encS s) k h
  unfold encS at h1 ⊢
  rw [bytesU_bsB _ (encL_lt _ (bytesU_lt s))] at h1
  exact ok_enc _ (bytesU_lt s) _ (List.mem_of_getElem? h1)
theorem toList_inj {s t : ByteArray} (h : s.toList = t.toList) : s = t := by
  rw [ByteArray.toList_eq, ByteArray.toList_eq] at h
  cases s with
  | mk a => cases t with
    | mk b =>
      have : a = b := by simpa using h
      rw [this]
set_option maxRecDepth 100000 in
set_option maxHeartbeats 8000000 in
theorem queryBack_any (s t : ByteArray) (w : World) (hM : MaxC w) (_ : s.size ≤ maxLen) (_ : t.size ≤ maxLen) :
    Calls Tryd.prog 6 #[.string s, .string t] w fun e w' => e = .returned (.bool true) ∧ Below w.heap.size w w' := by
  have HM := Lib.hid hM
  by_cases h1 : 200 < s.size
  · have q1 : decide ((200 : Int) < (s.size : Int)) = true := decide_eq_true (by omega)
    go_enter Tryd.func6, Tryd.ntmps6
    go_wp2_with (first
      | (go_at_call 27; refine (awake37_any _ HM.out).mono ?_; rintro e w6 ⟨rfl, hb⟩; have HB6 := Lib.hid hb; clear hb))
    go_ret
    exact ⟨rfl, HB6.out⟩
  have q1 : decide ((200 : Int) < (s.size : Int)) = false := decide_eq_false (by omega)
  by_cases h2 : 200 < t.size
  · have q2 : decide ((200 : Int) < (t.size : Int)) = true := decide_eq_true (by omega)
    go_enter Tryd.func6, Tryd.ntmps6
    go_wp2_with (first
      | (go_at_call 27; refine (awake37_any _ HM.out).mono ?_; rintro e w6 ⟨rfl, hb⟩; have HB6 := Lib.hid hb; clear hb))
    go_ret
    exact ⟨rfl, HB6.out⟩
  have q2 : decide ((200 : Int) < (t.size : Int)) = false := decide_eq_false (by omega)
  have E1 := Lib.hid (show ∀ W, Calls Tryd.prog 28 #[.string s] W fun e w' => e = .returned (.string (encS s)) ∧ Below W.heap.size W w' from fun W => encode_any s (by omega) W)
  have E2 := Lib.hid (show ∀ W, Calls Tryd.prog 28 #[.string t] W fun e w' => e = .returned (.string (encS t)) ∧ Below W.heap.size W w' from fun W => encode_any t (by omega) W)
  have hsz := encS_le s
  have hD := fun W => qdecode_any (encS s) (by omega) W
  unfold DecPost at hD
  change ∀ W, Calls Tryd.prog 29 #[.string (encS s)] W (fun e w' => e = .returned (.tuple #[.string (qdec (encS s)).1, .int .i64 ((qdec (encS s)).2 : Nat)]) ∧ Below W.heap.size W w') at hD
  rw [qdec_enc] at hD
  have D1 := Lib.hid hD
  have HOK := Lib.hid (encS_at s)
  have hst : (encS s = encS t) ↔ s = t := ⟨encS_inj, fun e => by rw [e]⟩
  clear hD
  generalize encS s = A at *
  generalize encS t = B at *
  obtain ⟨bb, hb1, hb2⟩ : ∃ bb : Bool, (A.toList == B.toList) = bb ∧ (s.toList == t.toList) = bb := by
    by_cases e : s = t
    · exact ⟨true, by rw [hst.2 e]; simp, by rw [e]; simp⟩
    · exact ⟨false, by simp; exact fun h => e (hst.1 (toList_inj h)), by simp; exact fun h => e (toList_inj h)⟩
  clear hst
  have hA : A.size ≤ 600 := by omega
  have hm3 : IntKind.i64.wrap (3 * (s.size : Int)) = 3 * (s.size : Int) := IntWalk.i64_in _ (by omega)
  have q5 : decide ((A.size : Int) ≤ 3 * (s.size : Int)) = true := decide_eq_true (by omega)
  have E3 := E1
  go_enter Tryd.func6, Tryd.ntmps6
  go_wp2_with (first
    | (go_at_call 28; first
        | ((with_reducible refine (E1.out _).mono ?_); rintro e w1 ⟨rfl, hb⟩; have HL1 := Lib.hid hb; clear hb E1)
        | ((with_reducible refine (E2.out _).mono ?_); rintro e w2 ⟨rfl, hb⟩; have HL2 := Lib.hid (HL1.out.trans (hb.mono HL1.out.size)); clear hb E2))
    | (go_at_call 29; refine (D1.out _).mono ?_; rintro e w3 ⟨rfl, hb⟩; have HL3 := Lib.hid (HL2.out.trans (hb.mono HL2.out.size)); clear hb D1))
  go_loopw [9] (fun ii wr => ∃ k : Nat, ii = .int .i64 k ∧ k ≤ A.size ∧ wr = w3) (fun ii _ => A.size - (intOf ii).toNat)
  case atStart => exact ⟨0, rfl, by omega, rfl⟩
  case round =>
    obtain ⟨k, rfl, hk, rfl⟩ := hrel
    by_cases hlt : k < A.size
    · have q6 : decide ((k : Int) < (A.size : Int)) = true := decide_eq_true (by omega)
      have q7 : (k : Int) < (A.size : Int) := by omega
      have hw5 : IntKind.i64.wrap ((k : Int) + 1) = (k : Int) + 1 := IntWalk.i64_in _ (by omega)
      obtain ⟨o1, o2, o3, o4, o5, o6, o7⟩ := okB_iff _ (HOK.out k hlt)
      have p1 : decide ((A[k].toNat : Int) ≤ 32) = false := decide_eq_false (by omega)
      have p2 : decide ((126 : Int) < (A[k].toNat : Int)) = false := decide_eq_false (by omega)
      have p3 : ((A[k].toNat : Int) == 47) = false := beq_eq_false_iff_ne.2 (by omega)
      have p4 : ((A[k].toNat : Int) == 63) = false := beq_eq_false_iff_ne.2 (by omega)
      have p5 : ((A[k].toNat : Int) == 38) = false := beq_eq_false_iff_ne.2 (by omega)
      have p6 : ((A[k].toNat : Int) == 61) = false := beq_eq_false_iff_ne.2 (by omega)
      have p7 : ((A[k].toNat : Int) == 43) = false := beq_eq_false_iff_ne.2 (by omega)
      go_wp2_with fail
      refine ⟨⟨k + 1, rfl, hlt, by trivial⟩, ?_⟩
      simp [intOf]
      omega
    · have q6 : decide ((k : Int) < (A.size : Int)) = false := decide_eq_false (by omega)
      go_wp2_with (first
        | (go_at_call 28; (with_reducible refine (E3.out _).mono ?_); rintro e w4 ⟨rfl, hb⟩; have HL4 := Lib.hid (HL3.out.trans (hb.mono HL3.out.size)); clear hb)
        | (go_at_call 27; refine (awake37_any _ (HM.out.below HL4.out)).mono ?_; rintro e w6 ⟨rfl, hb⟩; have HB6 := Lib.hid (HL4.out.trans (hb.mono HL4.out.size)); clear hb))
      go_ret
      exact ⟨rfl, HB6.out⟩
#print axioms queryBack_any
end Go.Proofs.YtbpcknjobbjmpaaDoor
