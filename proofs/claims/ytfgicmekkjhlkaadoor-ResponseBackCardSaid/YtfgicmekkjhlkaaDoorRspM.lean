/- ResponseBack, plain: numerals are read as they were; a body in two parts; a byte changed; waits. -/
import Derived.Test.YtfgicmekkjhlkaaDoorRspJ
namespace Go.Proofs.YtfgicmekkjhlkaaDoor
open Go.RowKit
set_option linter.unusedVariables false
set_option linter.unusedSimpArgs false

theorem digit_val (d : Nat) (h : d < 10) : (UInt8.ofNat (48 + d)).toNat = 48 + d := by simp; omega
theorem dec_val : ∀ n : Nat, numVal (Lib.decDigits n) = n := by
  intro n
  induction n using Nat.strongRecOn with
  | _ n ih =>
    rw [Lib.decDigits]
    split
    · rename_i h
      show 0 * 10 + ((UInt8.ofNat (48 + n)).toNat - 48) = n
      rw [digit_val n h]
      omega
    · rename_i h
      rw [numVal_snoc, ih (n / 10) (by omega), digit_val _ (Nat.mod_lt _ (by omega))]
      omega
theorem dec_dig : ∀ n : Nat, (Lib.decDigits n).all digB = true := by
  intro n
  induction n using Nat.strongRecOn with
  | _ n ih =>
    rw [Lib.decDigits]
    split
    · rename_i h
      simp only [List.all_cons, List.all_nil, Bool.and_true, digB, digit_val n h]
      exact decide_eq_true (by omega)
    · rename_i h
      have hm := Nat.mod_lt n (show 0 < 10 by omega)
      rw [List.all_append, ih (n / 10) (by omega)]
      simp only [List.all_cons, List.all_nil, Bool.and_true, Bool.true_and, digB, digit_val _ hm]
      exact decide_eq_true (by omega)
theorem dec_head : ∀ n : Nat, 1 ≤ n → (Lib.decDigits n).head? ≠ some 48 := by
  intro n
  induction n using Nat.strongRecOn with
  | _ n ih =>
    intro h1
    rw [Lib.decDigits]
    split
    · rename_i h
      intro e
      simp only [List.head?_cons, Option.some.injEq] at e
      have := congrArg UInt8.toNat e
      rw [digit_val n h] at this
      simp at this
      omega
    · rename_i h
      have hne : Lib.decDigits (n / 10) ≠ [] := by rw [Lib.decDigits]; split <;> simp
      have := ih (n / 10) (by omega) (by omega)
      cases hd : Lib.decDigits (n / 10) with
      | nil => exact absurd hd hne
      | cons c l => rw [hd] at this; simpa using this
theorem dec_ne (n : Nat) : Lib.decDigits n ≠ [] := by rw [Lib.decDigits]; split <;> simp
theorem dec_len (n : Nat) (h : n ≤ 999999999) : (Lib.decDigits n).length ≤ 9 := by
  rw [Lib.decDigits_length]
  exact nDigits_le 8 n (by omega)
theorem dec_ok (n : Nat) (h : n ≤ 999999999) : numOk (decS n).data.toList = true := by
  rw [show (decS n).data.toList = Lib.decDigits n from rfl, numOk_eq]
  refine ⟨dec_ne n, dec_len n h, ?_, dec_dig n⟩
  rintro ⟨h1, h2⟩
  by_cases h0 : n < 10
  · rw [Lib.decDigits, dif_pos h0] at h1
    simp at h1
  · exact dec_head n (by omega) h2
theorem dec_num (n : Nat) (h : n ≤ 999999999) : numI (decS n).data.toList = n := by
  rw [numI_yes (dec_ok n h), show (decS n).data.toList = Lib.decDigits n from rfl, dec_val]
theorem dec_3 (n : Nat) (h1 : 100 ≤ n) (h2 : n ≤ 599) : (decS n).size = 3 := by
  have h : (decS n).size = Lib.nDigits n := by rw [← Lib.decDigits_length]; rfl
  rw [h, Lib.nDigits, dif_neg (by omega), Lib.nDigits, dif_neg (by omega), Lib.nDigits, dif_pos (by omega)]
theorem raS_cl : ∀ v, isN clS ⟨raS, v, false⟩ = false ∧ isN raS ⟨raS, v, false⟩ = true ∧ headC raS = false := fun v =>
  ⟨(by decide +kernel : (raS.toList == clS.toList) = false), (by decide +kernel : (raS.toList == raS.toList) = true), by decide +kernel⟩
theorem clS_cl : ∀ v, isN clS ⟨clS, v, false⟩ = true ∧ isN raS ⟨clS, v, false⟩ = false ∧ headC clS = false := fun v =>
  ⟨(by decide +kernel : (clS.toList == clS.toList) = true), (by decide +kernel : (clS.toList == raS.toList) = false), by decide +kernel⟩
/-- What is answered is read as it was. -/
theorem read_fields (a b c : Nat) (h1 : 100 ≤ a) (h2 : a ≤ 599) (hb : b ≤ 999999999) (hc : c ≤ 999999999) : readR (fieldsR a b c) = (((a : Int), (b : Int), (c : Int)), true) := by
  have e0 : ((⟨stS, decS a, false⟩ : Fld).name.toList == stS.toList) = true := by simp
  unfold fieldsR
  rw [List.cons_append, readR_eq _ _ e0 (dec_3 a h1 h2)]
  simp only
  rw [dec_ok a (by omega), dec_num a (by omega)]
  by_cases h0 : c = 0
  · subst h0
    rw [if_pos rfl]
    have v1 : valsF clS ([⟨clS, decS b, false⟩] ++ []) = [decS b] := by simp [valsF, (clS_cl (decS b)).1]
    have v2 : valsF raS ([⟨clS, decS b, false⟩] ++ []) = [] := by simp [valsF, (clS_cl (decS b)).2.1]
    have ha : ([(⟨clS, decS b, false⟩ : Fld)] ++ ([] : List Fld)).any (fun g => headC g.name) = false := by simp [(clS_cl (decS b)).2.2]
    rw [if_neg, v1, v2]
    · show ((_, numI (decS b).data.toList, (0 : Int)), true) = _
      rw [dec_num b hb]
      rfl
    · unfold okR
      rw [v1, v2, ha]
      simp only [okV, List.all_cons, List.all_nil, dec_ok b hb]
      rintro (h | h | h | h)
      · exact absurd h (by decide)
      · simp at h
      · simp at h
      · exact h (by omega)
  · rw [if_neg h0]
    have v1 : valsF clS ([⟨clS, decS b, false⟩] ++ [⟨raS, decS c, false⟩]) = [decS b] := by simp [valsF, (clS_cl (decS b)).1, (raS_cl (decS c)).1]
    have v2 : valsF raS ([⟨clS, decS b, false⟩] ++ [⟨raS, decS c, false⟩]) = [decS c] := by simp [valsF, (clS_cl (decS b)).2.1, (raS_cl (decS c)).2.1]
    have ha : ([(⟨clS, decS b, false⟩ : Fld)] ++ [(⟨raS, decS c, false⟩ : Fld)]).any (fun g => headC g.name) = false := by simp [(clS_cl (decS b)).2.2, (raS_cl (decS c)).2.2]
    rw [if_neg, v1, v2]
    · show ((_, numI (decS b).data.toList, numI (decS c).data.toList), true) = _
      rw [dec_num b hb, dec_num c hc]
    · unfold okR
      rw [v1, v2, ha]
      simp only [okV, List.all_cons, List.all_nil, dec_ok b hb, dec_ok c hc]
      rintro (h | h | h | h)
      · exact absurd h (by decide)
      · simp at h
      · simp at h
      · exact h (by omega)
/-- A body in two parts is the body. -/
theorem body_two (f c m : Nat) (h : c ≤ m) : bodyL f c ++ bodyL (f + c) (m - c) = bodyL f m := by
  apply List.ext_getElem?
  intro i
  by_cases h1 : i < c
  · rw [List.getElem?_append_left (by rw [bodyL_len]; exact h1), bodyL_get f c i h1, bodyL_get f m i (by omega)]
  · rw [List.getElem?_append_right (by rw [bodyL_len]; omega), bodyL_len]
    by_cases h2 : i < m
    · rw [bodyL_get _ _ _ (show i - c < m - c by omega), bodyL_get f m i h2, show f + c + (i - c) = f + i from by omega]
    · rw [List.getElem?_eq_none (by rw [bodyL_len]; omega), List.getElem?_eq_none (by rw [bodyL_len]; omega)]
theorem bodyI_nat (f m : Nat) (h : m ≤ 65536) : bodyI f m = bodyL f m := by
  unfold bodyI
  split
  · rename_i h2
    have : m = 0 := by omega
    subst this
    rfl
  · rw [Int.toNat_natCast, Int.toNat_natCast]
theorem bsB_list (l : List Nat) : (bsB l).toList = l.map UInt8.ofNat := by rw [tl]; rfl
theorem whole_yes (f m : Nat) (h : m ≤ 65536) : wholeB (bodyL f m) f = true := by
  unfold wholeB
  rw [bodyL_len, bodyI_nat f m h]
  simp
/-- A byte changed: no part of a body. -/
theorem whole_no (f m i x : Nat) (h : m ≤ 65536) (hi : i < m) (hx : x < 256) (hne : x ≠ 97 + (f + i) % 26) : wholeB ((bodyL f m).set i x) f = false := by
  unfold wholeB
  rw [List.length_set, bodyL_len, bodyI_nat f m h, bsB_list, bsB_list]
  rw [beq_eq_false_iff_ne]
  intro e
  have e2 := congrArg (fun l => l[i]?) e
  simp only [List.getElem?_map, List.getElem?_set, bodyL_get f m i hi, bodyL_len] at e2
  rw [if_pos trivial, if_pos hi] at e2
  simp only [Option.map_some, Option.some.injEq] at e2
  have e3 := congrArg UInt8.toNat e2
  have hm := Nat.mod_lt (f + i) (show 0 < 26 by omega)
  simp at e3
  omega
theorem wait_law (t p : Nat) (ht : 1 ≤ t) (hp : 1 ≤ p) : 1 ≤ (t - 1) / p + 1 ∧ t ≤ ((t - 1) / p + 1) * p ∧ ((t - 1) / p + 1 - 1) * p < t := by
  have h1 : (t - 1) / p * p + (t - 1) % p = t - 1 := by rw [Nat.mul_comm]; exact Nat.div_add_mod (t - 1) p
  have h2 := Nat.mod_lt (t - 1) (show 0 < p from hp)
  generalize (t - 1) / p = q at *
  generalize (t - 1) % p = r at *
  refine ⟨by omega, ?_, ?_⟩
  · rw [Nat.add_mul]; omega
  · rw [Nat.add_sub_cancel]; omega
#print axioms read_fields
#print axioms whole_no
end Go.Proofs.YtfgicmekkjhlkaaDoor
