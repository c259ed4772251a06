/- QueryClean: the walk. -/
import Derived.Test.YtbpcknjobbjmpaaDoorQryT
namespace Go.Proofs.YtbpcknjobbjmpaaDoor
open Go.RowKit
set_option linter.unusedVariables false
set_option linter.unusedSimpArgs false

set_option maxRecDepth 100000 in
set_option maxHeartbeats 20000000 in
theorem queryClean_any (s : ByteArray) (oa : Option Addr) (n cap : Nat) (L : List Pr) (hn : L.length = n) (w : World) (hM : MaxC w) (_ : s.size ≤ maxLen) (hf : PairsN w oa L) :
    Calls Tryd.prog 7 #[.string s, .slice oa n cap] w fun e w' => e = .returned (.bool true) ∧ Below w.heap.size w w' := by
  have HM := Lib.hid hM
  have HF := Lib.hid hf
  clear hM hf
  by_cases h1 : 200 < s.size
  · have q1 : decide ((200 : Int) < (s.size : Int)) = true := decide_eq_true (by omega)
    go_enter Tryd.func7, Tryd.ntmps7
    go_wp2_with (first
      | (go_at_call 27; refine (awake37_any _ HM.out).mono ?_; rintro e w6 ⟨rfl, hb⟩; have HB6 := Lib.hid hb; clear hb))
    go_ret
    exact ⟨rfl, HB6.out⟩
  have q1 : decide ((200 : Int) < (s.size : Int)) = false := decide_eq_false (by omega)
  by_cases h2 : 20 < n
  · have q2 : decide ((20 : Int) < (n : Int)) = true := decide_eq_true (by omega)
    go_enter Tryd.func7, Tryd.ntmps7
    go_wp2_with (first
      | (go_at_call 27; refine (awake37_any _ HM.out).mono ?_; rintro e w6 ⟨rfl, hb⟩; have HB6 := Lib.hid hb; clear hb))
    go_ret
    exact ⟨rfl, HB6.out⟩
  have q2 : decide ((20 : Int) < (n : Int)) = false := decide_eq_false (by omega)
  -- what is told of the path
  have hs200 : s.size ≤ 200 := by omega
  have hcl := cutS_le s 63
  have hcT := cleanT_le s hs200
  have K1 := Lib.hid (fun W hW => clean_any s (by omega) W hW)
  have K2 := Lib.hid (fun W hW => clean_any (cleanT s) (by omega) W hW)
  rw [clean_idem s] at K2
  have S1 := Lib.hid (fun W hW => split_any s (by omega) W hW)
  have S3 := Lib.hid (fun W hW => split_any (cleanT s) (by omega) W hW)
  have hno := cutS_no s 63
  have HX : (begS (cutS s 63).1 = false ∧ cleanT s = s ∧ (s.size = 0 ∨ ∃ h : 0 < s.size, (s[0]'h).toNat ≠ 47)) ∨
      (begS (cutS s 63).1 = true ∧ (∃ h : 0 < s.size, (s[0]'h).toNat = 47) ∧ ∃ K b z, (∀ p ∈ K, goodP p) ∧ cutS (cleanT s) 63 = (hdS K, b, z)) := by
    cases hb : begS (cutS s 63).1 with
    | false =>
      left
      refine ⟨rfl, cleanT_no s hb, ?_⟩
      by_cases h0 : s.size = 0
      · exact .inl h0
      · right
        refine ⟨by omega, fun h47 => ?_⟩
        have hat := at_LL s 0 (by omega)
        have : begS (cutS s 63).1 = true := (beg_iff s).2 (by
          cases hl : LL s with
          | nil => rw [hl] at hat; simp at hat
          | cons x l =>
            rw [hl] at hat
            have e : s[0] = x := (Option.some.inj hat).symm
            have : x = 47 := by rw [← e]; exact UInt8.toNat_inj.1 h47
            exact ⟨l, by rw [this]⟩)
        rw [hb] at this
        cases this
    | true =>
      right
      obtain ⟨l, hl⟩ := (beg_iff s).1 hb
      have h0 : 0 < s.size := by rw [← LL_len, hl]; simp
      refine ⟨rfl, ⟨h0, ?_⟩, _, _, _, kept_good _ hno, cut_clean s hb⟩
      have hat := at_LL s 0 h0
      rw [hl] at hat
      have e : s[0] = 47 := (Option.some.inj hat).symm
      rw [e]; rfl
  have HSP := Lib.hid (fun (W : World) (hW : MaxC W) (hsz : ((cutS s 63).1 ++ ⟨#[63]⟩ ++ printT L).size ≤ 1000000) => split_any ((cutS s 63).1 ++ ⟨#[63]⟩ ++ printT L) hsz W hW)
  rw [cutS_app _ _ _ hno] at HSP
  simp only at HSP
  generalize hC : cleanT s = C at *
  generalize hq : cutS s 63 = q at *
  obtain ⟨hd, bh, iz⟩ := q
  simp only at S1 HSP hcl hno HX
  clear hno hq
  have HP := Lib.hid (fun (W : World) (oa : Option Addr) (cap : Nat) (h : ∀ p ∈ L, p.k.size ≤ 1000 ∧ p.v.size ≤ 1000) (hW : PairsN W oa L) => print_any oa n cap L hn (by omega) h W hW)
  have HPA := Lib.hid (fun (W : World) (hW : MaxC W) (hsz : (printT L).size ≤ 1000000) => parse_any (printT L) hsz W hW)
  unfold ParsePost at HPA
  rw [parse_print L (by omega)] at HPA
  simp only at HPA
  have HPL := Lib.hid (show (∀ p ∈ L, p.k.size ≤ 40 ∧ p.v.size ≤ 40) → (printT L).size ≤ (6 * 40 + 2) * 20 from fun h => printT_le L 40 20 h (by omega))
  generalize printT L = PS at *
  go_enter Tryd.func7, Tryd.ntmps7
  go_wp2_with fail
  go_loopw [5] (fun ii wr => ∃ k : Nat, ii = .int .i64 k ∧ k ≤ n ∧ (∀ j p, j < k → L[j]? = some p → p.k.size ≤ 40 ∧ p.v.size ≤ 40) ∧ wr = w) (fun ii _ => n - (intOf ii).toNat)
  case atStart => exact ⟨0, rfl, by omega, fun j p h => by omega, rfl⟩
  case round =>
    obtain ⟨k, rfl, hk, hall, rfl⟩ := hrel
    have HALL := Lib.hid hall
    clear hall
    by_cases hlt : k < n
    · have q4 : decide ((k : Int) < (n : Int)) = true := decide_eq_true (by omega)
      have q5 : (k : Int) < (n : Int) := by omega
      have hw5 : IntKind.i64.wrap ((k : Int) + 1) = (k : Int) + 1 := IntWalk.i64_in _ (by omega)
      obtain ⟨p, hpk⟩ : ∃ p, L[k]? = some p := ⟨L[k]'(by omega), List.getElem?_eq_getElem _⟩
      obtain ⟨b, o, rfl, c1, c2⟩ := HF.out k p hpk
      by_cases g1 : 40 < p.k.size
      · have p1 : decide ((40 : Int) < (p.k.size : Int)) = true := decide_eq_true (by omega)
        go_wp2_with (first
          | (go_at_call 27; refine (awake37_any _ HM.out).mono ?_; rintro e w6 ⟨rfl, hb⟩; have HB6 := Lib.hid hb; clear hb))
        go_ret
        exact ⟨rfl, HB6.out⟩
      have p1 : decide ((40 : Int) < (p.k.size : Int)) = false := decide_eq_false (by omega)
      by_cases g2 : 40 < p.v.size
      · have p2 : decide ((40 : Int) < (p.v.size : Int)) = true := decide_eq_true (by omega)
        go_wp2_with (first
          | (go_at_call 27; refine (awake37_any _ HM.out).mono ?_; rintro e w6 ⟨rfl, hb⟩; have HB6 := Lib.hid hb; clear hb))
        go_ret
        exact ⟨rfl, HB6.out⟩
      have p2 : decide ((40 : Int) < (p.v.size : Int)) = false := decide_eq_false (by omega)
      go_wp2_with fail
      refine ⟨⟨k + 1, rfl, hlt, fun j p' hj hp' => ?_, by trivial⟩, ?_⟩
      · by_cases e : j = k
        · subst e
          rw [hpk] at hp'
          cases hp'
          omega
        · exact HALL.out j p' (by omega) hp'
      · simp [intOf]
        omega
    · have q4 : decide ((k : Int) < (n : Int)) = false := decide_eq_false (by omega)
      have hL : ∀ p ∈ L, p.k.size ≤ 40 ∧ p.v.size ≤ 40 := fun p hp => by
        obtain ⟨j, hj⟩ := List.getElem?_of_mem hp
        exact HALL.out j p (by have := (List.getElem?_eq_some_iff.1 hj).1; omega) hj
      have hps := HPL.out hL
      have HLS := Lib.hid (show ∀ p ∈ L, p.k.size ≤ 1000 ∧ p.v.size ≤ 1000 from fun p hp => by have := hL p hp; omega)
      clear HALL hL
      have e63 : (ByteArray.mk #[63]).size = 1 := rfl
      have f1 : ¬ (9223372036854775807 < hd.size + 1) := by omega
      have f1' : ¬ (9223372036854775807 < hd.size + (⟨#[63]⟩ : ByteArray).size) := by omega
      have f2 : ¬ (9223372036854775807 < (hd ++ ⟨#[63]⟩).size + PS.size) := by rw [ByteArray.size_append]; omega
      have f2' : ¬ (9223372036854775807 < hd.size + 1 + PS.size) := by omega
      have hsx : (hd ++ ⟨#[63]⟩ ++ PS).size ≤ 1000000 := by rw [ByteArray.size_append, ByteArray.size_append]; omega
      go_upto_region 14 with (first
        | (go_at_call 30; first
            | ((with_reducible refine (K1.out _ (HM.out)).mono ?_); rintro e w1 ⟨rfl, hb⟩; have HL1 := Lib.hid hb; clear hb K1)
            | ((with_reducible refine (K2.out _ (HM.out.below HL5.out)).mono ?_); rintro e w6 ⟨rfl, hb⟩; have HL6 := Lib.hid (HL5.out.trans (hb.mono HL5.out.size)); have HO6 := Lib.hid (HO5.out.step hb); clear hb))
        | (go_at_call 31; first
            | ((with_reducible refine (S1.out _ (HM.out.below HL1.out)).mono ?_); rintro e w2 ⟨rfl, hb⟩; have HL2 := Lib.hid (HL1.out.trans (hb.mono HL1.out.size)); clear hb S1)
            | ((with_reducible refine (HSP.out _ (HM.out.below HL4.out) hsx).mono ?_); rintro e w4' ⟨rfl, hb⟩; have HL4' := Lib.hid (HL4.out.trans (hb.mono HL4.out.size)); clear hb HSP))
        | (go_at_call 33; refine (own_any oa n cap L hn (by omega) _ (HF.out.below HL2.out)).mono ?_; rintro e w3 ⟨v3, rfl, hO, hb⟩; have HL3 := Lib.hid (HL2.out.trans (hb.mono HL2.out.size)); obtain ⟨o3, c3, rfl, hP3, _⟩ := hO.form; have HP3 := Lib.hid hP3; rw [hn]; clear hb hO hP3)
        | (go_at_call 32; refine (HP.out _ _ _ HLS.out HP3.out).mono ?_; rintro e w4 ⟨rfl, hb⟩; have HL4 := Lib.hid (HL3.out.trans (hb.mono HL3.out.size)); clear hb)
        | (go_at_call 34; refine (HPA.out _ (HM.out.below HL4'.out) (by omega)).mono ?_; rintro e w5 ⟨v5, rfl, hO, hb⟩; have HL5 := Lib.hid (HL4'.out.trans (hb.mono HL4'.out.size)); have HO5 := Lib.hid hO; clear hb hO)
        | (go_at_call 36; obtain ⟨o6, c6, e6, hP6, _⟩ := HO6.out.form; rw [hn] at e6; subst e6; refine (back_any o6 n c6 L hn (by omega) _ hP6).mono ?_; rintro e w7 ⟨v7, rfl, hO, hb⟩; have HL7 := Lib.hid (HL6.out.trans (hb.mono HL6.out.size)); obtain ⟨o7, c7, rfl, hP7, _⟩ := hO.form; have HP7 := Lib.hid hP7; rw [hn]; clear hb hO hP7)
        | (go_at_call 35; refine (samePairs_any o7 oa n c7 cap L hn (by omega) _ HP7.out (HF.out.below HL7.out)).mono ?_; rintro e w8 ⟨rfl, hb⟩; have HL8 := Lib.hid (HL7.out.trans (hb.mono HL7.out.size)); clear hb))
      rcases HX with ⟨_, hCs, h0 | ⟨h0, h47⟩⟩ | ⟨_, ⟨h0, h47⟩, K, b, z, hg, hcut⟩
      · have hcs : (C.toList == s.toList) = true := by rw [hCs]; simp
        have hse := size0 h0
        go_wp2_with (first
          | (go_at_call 27; refine (awake37_any _ (HM.out.below HL8.out)).mono ?_; rintro e w9 ⟨rfl, hb⟩; have HL9 := Lib.hid (HL8.out.trans (hb.mono HL8.out.size)); clear hb))
        go_ret
        exact ⟨rfl, HL9.out⟩
      · have hcs : (C.toList == s.toList) = true := by rw [hCs]; simp
        have hse := sizeN (show ¬ s.size = 0 from by omega)
        have hp0 : (0 : Int) < (s.size : Int) := by omega
        have q6 : ((s[0].toNat : Int) != 47) = true := by simp; omega
        go_wp2_with (first
          | (go_at_call 27; refine (awake37_any _ (HM.out.below HL8.out)).mono ?_; rintro e w9 ⟨rfl, hb⟩; have HL9 := Lib.hid (HL8.out.trans (hb.mono HL8.out.size)); clear hb))
        go_ret
        exact ⟨rfl, HL9.out⟩
      · have hse := sizeN (show ¬ s.size = 0 from by omega)
        have hp0 : (0 : Int) < (s.size : Int) := by omega
        have q6 : ((s[0].toNat : Int) != 47) = false := by rw [h47]; rfl
        have hS3 := S3.out
        rw [hcut] at hS3
        have HS3 := Lib.hid hS3
        obtain ⟨k0, k47, kem, kne⟩ := hd_facts K hg
        have HRS := Lib.hid (rem_start K)
        have HG := Lib.hid hg
        have hQs := (cutS_le C 63).1
        rw [hcut] at hQs
        simp only at hQs
        clear hS3 S3 hcut hg
        generalize hQ : hdS K = Q at *
        have hqe := sizeN (show ¬ Q.size = 0 from by omega)
        have hq0 : (0 : Int) < (Q.size : Int) := by omega
        have q7 : ((Q[0].toNat : Int) != 47) = false := by rw [k47]; rfl
        by_cases hK : K = []
        · have hqs : (Q.toList == [47]) = true := by rw [kem hK]; rfl
          go_wp2_with (first
            | (go_at_call 31; refine (HS3.out _ (HM.out.below HL8.out)).mono ?_; rintro e w8' ⟨rfl, hb⟩; have HL8' := Lib.hid (HL8.out.trans (hb.mono HL8.out.size)); clear hb)
            | (go_at_call 27; refine (awake37_any _ (HM.out.below HL8'.out)).mono ?_; rintro e w9 ⟨rfl, hb⟩; have HL9 := Lib.hid (HL8'.out.trans (hb.mono HL8'.out.size)); clear hb))
          go_ret
          exact ⟨rfl, HL9.out⟩
        · have hqs := kne hK
          have HR1 := Lib.hid (HRS.out hK HG.out)
          clear HRS HG
          go_wp2_with (first
            | (go_at_call 31; refine (HS3.out _ (HM.out.below HL8.out)).mono ?_; rintro e w8' ⟨rfl, hb⟩; have HL8' := Lib.hid (HL8.out.trans (hb.mono HL8.out.size)); clear hb))
          go_loopw [18, 19] (fun lv iv wr => ∃ last i : Nat, lv = .int .i64 last ∧ iv = .int .i64 i ∧ wr = w8' ∧ (i = Q.size + 1 ∨ RemAt (LL Q) last i)) (fun _ iv _ => Q.size + 1 - (intOf iv).toNat)
          case atStart => exact ⟨0, 1, rfl, rfl, rfl, .inr HR1.out⟩
          case round =>
            obtain ⟨last, i, rfl, rfl, rfl, hrem⟩ := hrel
            rcases hrem with hend | hrem
            · subst hend
              have q8 : decide (((Q.size + 1 : Nat) : Int) ≤ (Q.size : Int)) = false := decide_eq_false (by omega)
              go_wp2_with (first
                | (go_at_call 27; refine (awake37_any _ (HM.out.below HL8'.out)).mono ?_; rintro e w9 ⟨rfl, hb⟩; have HL9 := Lib.hid (HL8'.out.trans (hb.mono HL8'.out.size)); clear hb))
              go_ret
              exact ⟨rfl, HL9.out⟩
            · obtain ⟨l1, l2, l3⟩ := rem_len hrem
              rw [LL_len] at l1 l2
              have HNX := rem_next hrem
              have q8 : decide ((i : Int) ≤ (Q.size : Int)) = true := decide_eq_true (by omega)
              have hw5 : IntKind.i64.wrap ((i : Int) + 1) = (i : Int) + 1 := IntWalk.i64_in _ (by omega)
              obtain ⟨m, hm⟩ : ∃ m : Nat, m = last + 1 := ⟨_, rfl⟩
              have hw6 : IntKind.i64.wrap ((last : Int) + 1) = (m : Int) := by rw [IntWalk.i64_in _ (by omega)]; omega
              have hb1 : (m : Int) ≤ (i : Int) := by omega
              have hb2 : (i : Int) ≤ (Q.size : Int) := by omega
              rw [← hm] at HNX
              clear hm hrem
              rcases HNX with ⟨hi, hne, hr⟩ | ⟨hi, e1, e2, e3⟩ | ⟨hi, he, hr, e1, e2, e3⟩
              · have HR := Lib.hid hr
                have q9 : ((i : Int) == (Q.size : Int)) = false := beq_eq_false_iff_ne.2 (by omega)
                have q10 : ((Q[i].toNat : Int) == 47) = false := beq_eq_false_iff_ne.2 (by omega)
                have q11 : (i : Int) < (Q.size : Int) := by omega
                clear hr
                go_wp2_with fail
                refine ⟨⟨last, i + 1, rfl, rfl, by trivial, .inr HR.out⟩, ?_⟩
                simp [intOf]
                omega
              · have q9 : ((i : Int) == (Q.size : Int)) = true := by rw [hi]; simp
                have HI := Lib.hid hi
                clear hi
                go_wp2_with fail
                refine ⟨⟨i, i + 1, rfl, rfl, by trivial, .inl (by rw [HI.out])⟩, ?_⟩
                simp [intOf]
                omega
              · have HR := Lib.hid hr
                have q9 : ((i : Int) == (Q.size : Int)) = false := beq_eq_false_iff_ne.2 (by omega)
                have q10 : ((Q[i].toNat : Int) == 47) = true := by rw [he]; rfl
                have q11 : (i : Int) < (Q.size : Int) := by omega
                clear hr
                go_wp2_with fail
                refine ⟨⟨i, i + 1, rfl, rfl, by trivial, .inr HR.out⟩, ?_⟩
                simp [intOf]
                omega
#print axioms queryClean_any
end Go.Proofs.YtbpcknjobbjmpaaDoor
