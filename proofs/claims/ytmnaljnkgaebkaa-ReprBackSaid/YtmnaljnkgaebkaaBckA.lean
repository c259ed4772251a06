/- ReprBack: the walk. -/
import Derived.Test.YtmnaljnkgaebkaaRepN
import Derived.Test.YtmnaljnkgaebkaaBckQ
namespace Go.Proofs.Ytmnaljnkgaebkaa
open Go.RowKit
set_option linter.unusedVariables false
set_option linter.unusedSimpArgs false

theorem take_succ {L : List Itm} {k : Nat} {x : Itm} (h : L[k]? = some x) : L.take (k + 1) = L.take k ++ [x] := by
  rw [List.take_add_one, h]; rfl
theorem ownB_len {w : World} {B : Nat} {v : Value} {l : List Nat} (h : OwnB w B v l) : ∃ oa cap, v = .slice oa l.length cap ∧ BytesN w oa l ∧ l.length ≤ cap ∧ cap ≤ maxLen := by
  by_cases h0 : 0 < l.length
  · obtain ⟨g, cap, rfl, h1, h2, h3, _⟩ := h.form h0
    exact ⟨_, cap, rfl, h1, h2, h3⟩
  · have : l = [] := List.length_eq_zero_iff.1 (by omega)
    subst this
    rcases h.2 with ⟨rfl, _⟩ | ⟨g, cap, cur, rfl, _, _, h1, h2, _⟩
    · exact ⟨none, 0, rfl, fun i hi => by simp at hi, Nat.le_refl _, Nat.zero_le _⟩
    · exact ⟨_, cap, rfl, fun i hi => by simp at hi, h1, h2⟩
theorem BytesN.take {W : World} {oa : Option Addr} {l : List Nat} (h : BytesN W oa l) (n : Nat) : BytesN W oa (l.take n) := fun i hi => by
  have hi2 : i < n ∧ i < l.length := by rw [List.length_take] at hi; omega
  obtain ⟨a, ha, hc⟩ := h i hi2.2
  refine ⟨a, ha, ?_⟩
  rw [hc]
  simp only [List.getD_eq_getElem?_getD]
  rw [List.getElem?_take, if_pos hi2.1]
set_option maxRecDepth 100000 in
set_option maxHeartbeats 4000000 in
theorem reprBack_any (oa : Option Addr) (n cap : Nat) (L : List Itm) (hn : L.length = n) (w : World) (hit : ItemsN w oa L) (hk : ∀ x ∈ L, x.kind < 256) : Calls Try.prog 13 #[.slice oa n cap] w fun e w' => e = .returned (.bool true) ∧ Below w.heap.size w w' := by
  have HIT := Lib.hid hit
  have HK := Lib.hid hk
  have HN := Lib.hid hn
  have HA := Lib.hid (show ∀ W, Below w.heap.size w W → Calls Try.prog 42 #[] W fun e w' => e = .returned (.bool true) ∧ Below w.heap.size w w' from fun W h => (awake05_any W).mono (by rintro e w' ⟨rfl, h2⟩; exact ⟨rfl, h.trans (h2.mono h.size)⟩))
  obtain ⟨i0, hi0, hz0, hz1, hz2⟩ := info_parts u8_info
  have HI := Lib.hid hi0
  have HZ0 := Lib.hid hz0
  have HZ1 := Lib.hid hz1
  have HZ2 := Lib.hid hz2
  clear hit hk hn hi0 hz0 hz1 hz2
  go_enter Try.func13, Try.ntmps13
  by_cases h12 : 12 < n
  · have q : decide ((12 : Int) < (n : Int)) = true := decide_eq_true (by omega)
    go_wp2_with fail
    refine (HA.out _ (Below.refl _ _)).mono ?_
    rintro e w3 ⟨rfl, hb⟩
    go_wp2_with fail
    go_ret
    exact ⟨rfl, hb⟩
  · have q : decide ((12 : Int) < (n : Int)) = false := decide_eq_false (by omega)
    go_wp2_with fail
    go_loopw [3, 4] (fun al ii wr => ∃ (k : Nat) (vv : Value), al = vv ∧ ii = .int .i64 k ∧ k ≤ n ∧ (∀ x ∈ L.take k, OkI x) ∧ OwnB wr w.heap.size vv (catI (L.take k)) ∧ Below w.heap.size w wr) (fun _ ii _ => n - (intOf ii).toNat)
    case atStart => exact ⟨0, _, rfl, rfl, Nat.zero_le _, (fun x hx => by simp at hx), World.ownsRow_nil _ _ _ _, Below.refl _ _⟩
    case round =>
      obtain ⟨k, vv, hvv, rfl, hkn, hok, hown, hb⟩ := hrel
      obtain rfl := hvv.symm
      have HOK := Lib.hid hok
      have HO := Lib.hid hown
      have HB := Lib.hid hb
      clear hok hown hb hvv
      by_cases hlt : k < n
      · have hlti : decide ((k : Int) < (n : Int)) = true := decide_eq_true (by omega)
        have hki : (k : Int) < (n : Int) := by omega
        obtain ⟨x, hx⟩ : ∃ x, L[k]? = some x := ⟨L[k]'(by rw [HN.out]; exact hlt), List.getElem?_eq_getElem _⟩
        have HX := Lib.hid (take_succ hx)
        have hkx := HK.out x (List.mem_of_getElem? hx)
        obtain ⟨b, o, rfl, c0, c1, c2, c3⟩ := (HIT.out.below HB.out) k x hx
        obtain ⟨kd, ix, nm, vl⟩ := x
        simp only at c0 c1 c2 c3 hkx
        by_cases hnm : 60 < nm.size
        · have q1 : decide ((60 : Int) < (nm.size : Int)) = true := decide_eq_true (by omega)
          go_wp2_with fail
          refine (HA.out _ HB.out).mono ?_
          rintro e w3 ⟨rfl, hb⟩
          go_wp2_with fail
          go_ret
          exact ⟨rfl, hb⟩
        have q1 : decide ((60 : Int) < (nm.size : Int)) = false := decide_eq_false (by omega)
        by_cases hvl : 60 < vl.size
        · have q2 : decide ((60 : Int) < (vl.size : Int)) = true := decide_eq_true (by omega)
          go_wp2_with fail
          refine (HA.out _ HB.out).mono ?_
          rintro e w3 ⟨rfl, hb⟩
          go_wp2_with fail
          go_ret
          exact ⟨rfl, hb⟩
        have q2 : decide ((60 : Int) < (vl.size : Int)) = false := decide_eq_false (by omega)
        go_wp2_with fail
        refine (rput_any kd ix nm vl hkx _).mono ?_
        have HL60 := Lib.hid (fun hc => itemN_len60 ⟨kd, ix, nm, vl⟩ hc (Nat.le_of_not_lt hnm) (Nat.le_of_not_lt hvl))
        have HCK := Lib.hid (rcheck_any kd ix nm vl hkx)
        simp only at HL60
        generalize hcx : chkI ⟨kd, ix, nm, vl⟩ = c at HCK
        rintro e w1 (⟨hc0, rfl, hb⟩ | ⟨hc0, v, rfl, ho, hb⟩)
        · rw [hcx] at hc0 ⊢
          have HB2 := Lib.hid (HB.out.trans (hb.mono HB.out.size))
          obtain ⟨b', o', e', d0, d1, d2, d3⟩ := (HIT.out.below HB2.out) k _ hx
          obtain ⟨rfl, rfl, _⟩ := Addr.mk.inj (Option.some.inj e')
          simp only at d0 d1 d2 d3
          clear e'
          have q3 : ((c : Int) != 0) = true := by simp; omega
          clear hb
          go_wp2_with fail
          refine (HCK.out _).mono ?_
          rintro e w2 ⟨rfl, hb⟩
          have HB3 := Lib.hid (HB2.out.trans (hb.mono HB2.out.size))
          clear hb
          go_wp2_with fail
          refine (HA.out _ HB3.out).mono ?_
          rintro e w3 ⟨rfl, hb⟩
          go_wp2_with fail
          go_ret
          exact ⟨rfl, hb⟩
        · obtain rfl : c = 0 := hcx.symm.trans hc0
          have HB2 := Lib.hid (HB.out.trans (hb.mono HB.out.size))
          obtain ⟨b', o', e', d0, d1, d2, d3⟩ := (HIT.out.below HB2.out) k _ hx
          obtain ⟨rfl, rfl, _⟩ := Addr.mk.inj (Option.some.inj e')
          simp only at d0 d1 d2 d3
          clear e'
          have HOV := Lib.hid ho
          have HO2 := Lib.hid (OwnB.step HO.out (fun k _ hl => hb.block k hl))
          clear hb ho
          have hit0 := itemN_pos ⟨kd, ix, nm, vl⟩
          have hle := HL60.out hcx
          have HCT := Lib.hid (show catI (L.take k) ++ itemN ⟨kd, ix, nm, vl⟩ = catI (L.take (k + 1)) from by rw [HX.out, catI_append, catI_cons]; simp [catI])
          have hcb := catI_big (L.take k) HOK.out
          rw [List.length_take] at hcb
          have HOK2 := Lib.hid (show ∀ x ∈ L.take (k + 1), OkI x from by
            rw [HX.out]
            intro y hy
            rcases List.mem_append.1 hy with h | h
            · exact HOK.out y h
            · rw [List.mem_singleton] at h
              subst h
              exact ⟨hcx, Nat.le_of_not_lt hnm, Nat.le_of_not_lt hvl⟩)
          generalize itemN ⟨kd, ix, nm, vl⟩ = bs at HOV HCT hit0 hle
          have hmp : 0 < bs.length := List.length_pos_iff.2 hit0
          obtain ⟨g, cb, rfl, hby, hmc, hcm, hg1, hg2⟩ := HOV.out.form hmp
          have HBY := Lib.hid (show BytesN w1.drew (some ⟨g, 0, none⟩) bs from hby.below (Below.refl w1.heap.size w1).drew)
          generalize hm : bs.length = m at hle hmp hmc
          have HM := Lib.hid hm
          have HB2d := Lib.hid (HB2.out.drew)
          have HO2d := Lib.hid (OwnB.step HO2.out (fun k _ hl => ((Below.refl w1.heap.size w1).drew).block k hl))
          have d2' : w1.drew.cell? ⟨b, o + k * 4 + 2, none⟩ = some (.string nm) := d2
          have d3' : w1.drew.cell? ⟨b, o + k * 4 + 3, none⟩ = some (.string vl) := d3
          have hsz : w.heap.size ≤ w1.drew.heap.size := HB2.out.size
          clear hby hm
          generalize catI (L.take k) = C at HCT hcb HO2d
          have hC1 : C.length ≤ 1536 := by omega
          have s1 : IntKind.i64.wrap (7 + (nm.size : Int)) = 7 + (nm.size : Int) := IntWalk.i64_in _ (by omega)
          have s2 : IntKind.i64.wrap (7 + (nm.size : Int) + 1) = 7 + (nm.size : Int) + 1 := IntWalk.i64_in _ (by omega)
          have s3 : IntKind.i64.wrap (7 + (nm.size : Int) + 1 + (vl.size : Int)) = 7 + (nm.size : Int) + 1 + (vl.size : Int) := IntWalk.i64_in _ (by omega)
          have q4 : decide (7 + (nm.size : Int) + 1 + (vl.size : Int) < (m : Int)) = false := decide_eq_false (by omega)
          go_upto_region 12 with fail
          go_region
          generalize w1.drew = wd at HBY HB2d HO2d d2' d3' hsz ⊢
          have HNEW := Lib.hid (show ∀ j u, (bs.map fun n : Nat => Value.int .u8 (n : Int))[j]? = some u → wd.cell? ((⟨g, 0, none⟩ : Addr).add j) = some u from fun j u hu => by
            obtain ⟨x, hx', rfl⟩ := by simpa using hu
            have hj : j < bs.length := (List.getElem?_eq_some_iff.1 hx').1
            obtain ⟨a, ha, hc⟩ := HBY.out j hj
            obtain rfl := Option.some.inj ha
            rw [hc, List.getD_eq_getElem?_getD, hx']
            rfl)
          have HONE := Lib.hid (show ∀ u ∈ (bs.map fun n : Nat => Value.int .u8 (n : Int)), u.oneCell' = true from fun u hu => by
            obtain ⟨x, _, rfl⟩ := List.mem_map.1 hu
            rfl)
          have HML := Lib.hid (show (bs.map fun n : Nat => Value.int .u8 (n : Int)).length = m * 1 from by rw [List.length_map, HM.out, Nat.mul_one])
          have hc2 : C.length + m ≤ maxLen := by unfold maxLen; omega
          have hc3 : (C.length + m) * 1 ≤ 140737488355328 := by omega
          go_wp2_with (at_builtin; refine wpList_append_own_at _ rfl _ _ 28 rfl w.heap.size 5 i0 _ 1 1 Try.underlying28 HI.out HZ0.out HZ1.out HZ2.out rfl (by omega) vv _ _ rfl HO2d.out ⟨g, 0, none⟩ m cb _ rfl HML.out HNEW.out HONE.out hc2 hc3 hsz ?_; intro v3 w4 hown3 hg3 _ _; clear hc2 hc3)
          have HB3 := Lib.hid (HB2d.out.grown hg3 hsz (fun q hq => (HO2d.out.lt q hq).1))
          have HO3 := Lib.hid (show OwnB w4 w.heap.size v3 (catI (L.take (k + 1))) from by rw [← HCT.out]; exact ownB_app (by rw [HM.out]; exact hown3))
          clear hg3 hown3
          go_wp2_with fail
          go_roundw
          case rel => exact ⟨k + 1, v3, rfl, by go_num, by omega, HOK2.out, HO3.out, HB3.out⟩
          case measure => simp [intOf]; omega
      · have hki : ¬ ((k : Int) < (n : Int)) := by omega
        have hlti : decide ((k : Int) < (n : Int)) = false := decide_eq_false (by omega)
        obtain rfl : k = n := by omega
        have HTK := Lib.hid (show L.take k = L from List.take_of_length_le (by rw [HN.out]; exact Nat.le_refl _))
        rw [HTK.out] at HOK HO
        have HAG := Lib.hid (allG_cat L HOK.out)
        have HCU := Lib.hid (show L ≠ [] → _ from fun h => cutI L h HOK.out)
        have HC256 := Lib.hid (catI_bytes L HOK.out)
        have hcb := catI_big L HOK.out
        have hcl := catI_len L
        obtain ⟨oaA, capA, rfl, hby, hmc, hcm⟩ := ownB_len HO.out
        have HBY := Lib.hid hby
        have HG256 := Lib.hid (show ∀ i, i < (catI L).length → (catI L).getD i 0 < 256 from fun i hi => by
          rw [List.getD_eq_getElem?_getD, List.getElem?_eq_getElem hi]
          exact HC256.out _ (List.getElem_mem hi))
        rw [HN.out] at hcb hcl
        clear hby
        have HAL := Lib.hid (fun W hW => all_any oaA _ capA (catI L) rfl hmc (by omega) W hW HG256.out)
        rw [show AllPost (catI L) = fun w e w' => ∃ v, e = .returned (.tuple #[v, .int .i64 0]) ∧ OwnI w' w.heap.size v L ∧ Below w.heap.size w w' from by funext w e w'; unfold AllPost; rw [HAG.out]; rfl] at HAL
        generalize catI L = C at *
        generalize hm : C.length = m at *
        go_wp2_with fail
        refine (HAL.out _ HBY.out).mono ?_
        rintro e w1 ⟨v, rfl, ho, hb⟩
        have HB2 := Lib.hid (HB.out.trans (hb.mono HB.out.size))
        have HBY2 := Lib.hid (HBY.out.below hb)
        obtain ⟨oaM, capM, rfl, him, hmk, hmk2, _⟩ := ho.form
        have HIM := Lib.hid him
        rw [HN.out] at hmk ⊢
        clear hb him ho
        go_wp2_with fail
        go_loopw [9] (fun ii wr2 => ∃ j : Nat, ii = .int .i64 j ∧ j ≤ k ∧ Below w1.heap.size w1 wr2) (fun ii _ => k - (intOf ii).toNat)
        case atStart => exact ⟨0, rfl, Nat.zero_le _, Below.refl _ _⟩
        case round =>
          obtain ⟨j, rfl, hjk, hbl⟩ := hrel
          have HBL := Lib.hid hbl
          have HBW := Lib.hid (HB2.out.trans (hbl.mono HB2.out.size))
          clear hbl
          by_cases hjlt : j < k
          · have hji : decide ((j : Int) < (k : Int)) = true := decide_eq_true (by omega)
            have hji2 : (j : Int) < (k : Int) := by omega
            obtain ⟨x, hx⟩ : ∃ x, L[j]? = some x := ⟨L[j]'(by rw [HN.out]; exact hjlt), List.getElem?_eq_getElem _⟩
            obtain ⟨b, o, rfl, c0, c1, c2, c3⟩ := (HIT.out.below HBW.out.drew) j x hx
            obtain ⟨bM, oM, rfl, d0, d1, d2, d3⟩ := (HIM.out.below HBL.out.drew) j x hx
            have HBLD := Lib.hid HBL.out.drew
            obtain ⟨kd, ix, nm, vl⟩ := x
            simp only at c0 c1 c2 c3 d0 d1 d2 d3
            have hw1 : IntKind.i64.wrap ((j : Int) + 1) = (j : Int) + 1 := IntWalk.i64_in _ (by omega)
            go_upto_region 21 with fail
            go_region
            go_wp2_with fail
            go_roundw
            case rel => exact ⟨j + 1, by go_num, by omega, HBLD.out⟩
            case measure => simp [intOf]; omega
          · have hji : decide ((j : Int) < (k : Int)) = false := decide_eq_false (by omega)
            have hji2 : ¬ ((j : Int) < (k : Int)) := by omega
            obtain rfl : j = k := by omega
            by_cases hm0 : m = 0
            · subst hm0
              go_wp2_with fail
              refine (HA.out _ HBW.out).mono ?_
              rintro e w3 ⟨rfl, hb⟩
              go_wp2_with fail
              go_ret
              exact ⟨rfl, hb⟩
            · have q5 : ((m : Int) == 0) = false := by simp; omega
              have hs1 : IntKind.i64.wrap ((m : Int) - 1) = ((m - 1 : Nat) : Int) := by rw [show (m : Int) - 1 = ((m - 1 : Nat) : Int) from by omega]; exact IntWalk.i64_in _ (by omega)
              have hs1' : wrap64 ((m - 1 : Nat) : Int) = ((m - 1 : Nat) : Int) := (IntWalk.i64_left _).symm.trans (IntWalk.i64_in _ (by omega))
              have hs2 : (0 : Int) ≤ ((m - 1 : Nat) : Int) := by omega
              have hs3 : ((m - 1 : Nat) : Int) ≤ (capA : Int) := by omega
              go_wp2_with fail
              have hlt2 : (C.take (m - 1)).length = m - 1 := by rw [List.length_take, hm]; omega
              have HT256 := Lib.hid (show ∀ i, i < (C.take (m - 1)).length → (C.take (m - 1)).getD i 0 < 256 from fun i hi => by
                rw [List.getD_eq_getElem?_getD, List.getElem?_eq_getElem hi]
                exact HC256.out _ (List.mem_of_mem_take (List.getElem_mem hi)))
              have HC3 := Lib.hid (HCU.out (by intro h; have := HN.out; rw [h] at this; simp at this; omega))
              rw [HN.out] at HC3
              refine (all_any oaA (m - 1) capA (C.take (m - 1)) hlt2 (by omega) (by omega) wr ((HBY2.out.below HBL.out).take _) HT256.out).mono ?_
              rintro e w3 ⟨v3, rfl, ho, hb⟩
              have HB3 := Lib.hid (HBW.out.trans (hb.mono HBW.out.size))
              obtain ⟨oa3, cap3, rfl, _, _, _, _⟩ := ho.form
              clear hb ho
              generalize allG (C.take (m - 1)) = r at HC3 ⊢
              obtain ⟨l3, er⟩ := r
              simp only at HC3 ⊢
              generalize hl3 : l3.length = n3
              have HC4 := Lib.hid (show (er ≠ 0 ∧ n3 = 0) ∨ n3 = j - 1 from by
                rcases HC3.out with ⟨h1, h2⟩ | h
                · exact .inl ⟨h1, by rw [← hl3, h2]; rfl⟩
                · exact .inr (by rw [← hl3]; exact h))
              clear hl3
              have hj0 : 0 < j := by omega
              have hj1 : wrap64 ((j : Int) - 1) = ((j - 1 : Nat) : Int) := (IntWalk.i64_left _).symm.trans (by rw [show (j : Int) - 1 = ((j - 1 : Nat) : Int) from by omega]; exact IntWalk.i64_in _ (by omega))
              have hj2 : IntKind.i64.wrap ((j : Int) - 1) = ((j - 1 : Nat) : Int) := (IntWalk.i64_left _).trans hj1
              by_cases her : er = 0
              · subst her
                obtain rfl : n3 = j - 1 := by
                  rcases HC4.out with ⟨h, _⟩ | h
                  · exact absurd rfl h
                  · exact h
                go_wp2_with fail
                refine (HA.out _ HB3.out).mono ?_
                rintro e w4 ⟨rfl, hb⟩
                go_wp2_with fail
                go_ret
                exact ⟨rfl, hb⟩
              · have q6 : ((er : Int) != 0) = true := by simp; omega
                by_cases hn3 : n3 = 0
                · subst hn3
                  go_wp2_with fail
                  refine (HA.out _ HB3.out).mono ?_
                  rintro e w4 ⟨rfl, hb⟩
                  go_wp2_with fail
                  go_ret
                  exact ⟨rfl, hb⟩
                · obtain rfl : n3 = j - 1 := by
                    rcases HC4.out with ⟨_, h⟩ | h
                    · exact absurd h hn3
                    · exact h
                  have q7 : (((j - 1 : Nat) : Int) == 0) = false := by simp; omega
                  go_wp2_with fail
                  refine (HA.out _ HB3.out).mono ?_
                  rintro e w4 ⟨rfl, hb⟩
                  go_wp2_with fail
                  go_ret
                  exact ⟨rfl, hb⟩
#print axioms reprBack_any
end Go.Proofs.Ytmnaljnkgaebkaa
