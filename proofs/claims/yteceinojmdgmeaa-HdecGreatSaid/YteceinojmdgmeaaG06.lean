/- HdecGreat: the walk. -/
import Derived.Test.YteceinojmdgmeaaC43
import Derived.Test.YteceinojmdgmeaaG05
import Derived.Test.YteceinojmdgmeaaC01
import Derived.Test.YteceinojmdgmeaaC28
import Derived.Deep.RegionHeld
import Derived.Deep.DeepCutAuto
namespace Go.Proofs.Yteceinojmdgmeaa
open Go.RowKit
set_option linter.unusedVariables false
set_option linter.unusedSimpArgs false

set_option maxRecDepth 100000 in
set_option maxHeartbeats 8000000 in
theorem hdecGreat_any (mx cp : Int) (oa : Option Addr) (n cap : Nat) (L : List Fld) (hn : L.length = n) (hnc : n ≤ cap) (ob : Option Addr) (m capb : Nat) (its : List Itm) (hm : its.length = m) (ct : Nat) (w : World) (hf : FieldsN w oa L) (hit : ItemsN w ob its) (hkd : ∀ x ∈ its, x.kind < 256) (hct : ct < 256) :
    Calls Try.prog 5 #[.agg #[.int .i64 mx, .slice oa n cap, .int .i64 cp], .slice ob m capb, .int .u8 (ct : Int)] w fun e w' => e = .returned (.bool true) ∧ Below w.heap.size w w' := by
  have HH := Lib.hid (Gs.new w mx cp (.slice oa n cap))
  have HLI := Lib.hid (fun W (hW : Below w.heap.size w W) => light6_any mx cp oa n cap L hn W (hf.below hW))
  have HAW := Lib.hid (fun W => awake06_any W)
  have HOW := Lib.hid (fun W => hown_any mx cp (.slice oa n cap) ⟨oa, n, cap, rfl⟩ W)
  by_cases hli : light L = true
  · have hl := light.all hli
    have hlen := light.len hli
    have hn30 : n ≤ 1000 := by omega
    have HCK := Lib.hid (fun W (hW : Below w.heap.size w W) => hcheck_any mx cp oa n cap L hn hl hn30 W (hf.below hW))
    rw [hli] at HLI
    by_cases hm20 : m ≤ 20
    · have q1 : decide ((20 : Int) < (m : Int)) = false := decide_eq_false (by omega)
      by_cases h0 : hchk mx cp L = 0
      · rw [h0] at HCK
        have HHC := Lib.hid h0
        have HN := Lib.hid (And.intro hn (And.intro hnc (And.intro hl hn30)))
        have HFW := Lib.hid (show ∀ W, Below w.heap.size w W → FieldsN W oa L from fun W hW => hf.below hW)
        have HIT := Lib.hid (show ∀ W, Below w.heap.size w W → ItemsN W ob its from fun W hW => hit.below hW)
        have HKD := Lib.hid (And.intro hm (And.intro hkd hm20))
        clear hn hl hlen hn30 hf hit hkd hm h0 hli hnc
        go_enter Try.func5, Try.ntmps5
        go_upto_region 1 with fail
        generalize (w.alloc (.cells #[.int .i64 mx, .slice oa n cap, .int .i64 cp] 40)) = w1 at HH ⊢
        have c0 := HH.out.st.c0
        have c1 := HH.out.st.c1
        have c2 := HH.out.st.c2
        go_upto_region 3 with (first | (go_at_call 12; refine (HLI.out _ HH.out.below).mono ?_; rintro e w2 ⟨rfl, hb⟩; replace HH := Lib.hid (HH.out.step hb); clear hb; have c0 := HH.out.st.c0; have c1 := HH.out.st.c1; have c2 := HH.out.st.c2) | (go_at_call 15; refine (HOW.out _).mono ?_; rintro e w3 ⟨rfl, hb⟩; replace HH := Lib.hid (HH.out.step hb); clear hb) | (go_at_call 21; refine (HCK.out _ HH.out.below).mono ?_; rintro e w4 ⟨rfl, hb⟩; replace HH := Lib.hid (HH.out.step hb); clear hb))
        clear c0 c1 c2
        go_upto_region 4 with fail
        have HR0 := Lib.hid (GRel.new w4)
        have HHW := Lib.hid (show ∀ W, Below w4.heap.size w4 W → Gs w mx cp (.slice oa n cap) W from fun W hW => HH.out.step hW)
        have HGW := Lib.hid HH.out.gt
        generalize w4.alloc (.cells #[.slice none 0 0, .slice none 0 0] 64) = w5 at HR0 ⊢
        obtain ⟨wB, hwB⟩ : ∃ wB, wB = w4 := ⟨_, rfl⟩
        subst hwB
        clear HH HLI HCK
        go_wp2_with fail
        go_loopw [8] (fun iv wr => ∃ (k : Nat) (v0 v1 : Value), iv = .int .i64 k ∧ k ≤ m ∧ OkN (its.take k) ∧ GRel wB v0 v1 (catI ((its.take k).take ct)) (catI ((its.take k).drop ct)) wr) (fun iv _ => m - (intOf iv).toNat)
        case atStart => exact ⟨0, _, _, rfl, Nat.zero_le _, (fun x hx => by simp at hx), by simpa [catI] using HR0.out⟩
        case round =>
          obtain ⟨k, v0, v1, rfl, hk, hok, hrel⟩ := hrel
          have HR := Lib.hid hrel
          have HOK := Lib.hid hok
          clear hrel hok HR0
          by_cases hlt : k < m
          · have q2 : decide ((k : Int) < (m : Int)) = true := decide_eq_true (by omega)
            have hw8 : IntKind.i64.wrap ((k : Int) + 1) = (k : Int) + 1 := IntWalk.i64_in _ (by omega)
            obtain ⟨x, hx⟩ : ∃ x, its[k]? = some x := ⟨its[k]'(by rw [HKD.out.1]; exact hlt), List.getElem?_eq_getElem _⟩
            have hkx := HKD.out.2.1 x (List.mem_of_getElem? hx)
            obtain ⟨b0, o0, rfl, i0c, i1c, i2c, i3c⟩ := (HIT.out _ (HHW.out _ HR.out.below).below) k x hx
            obtain ⟨kd, ix, nm, vl⟩ := x
            dsimp only at i0c i1c i2c i3c hkx
            by_cases hnm : 100 < nm.size
            · have q3 : decide ((100 : Int) < (nm.size : Int)) = true := decide_eq_true (by omega)
              go_wp2_with (go_at_call 13; refine (HAW.out _).mono ?_; rintro e w9 ⟨rfl, hb⟩; have HB9 := Lib.hid hb; clear hb)
              go_ret
              exact ⟨rfl, (HHW.out _ (HR.out.step HB9.out).below).below⟩
            have q3 : decide ((100 : Int) < (nm.size : Int)) = false := decide_eq_false (by omega)
            by_cases hvl : 100 < vl.size
            · have q4 : decide ((100 : Int) < (vl.size : Int)) = true := decide_eq_true (by omega)
              go_wp2_with (go_at_call 13; refine (HAW.out _).mono ?_; rintro e w9 ⟨rfl, hb⟩; have HB9 := Lib.hid hb; clear hb)
              go_ret
              exact ⟨rfl, (HHW.out _ (HR.out.step HB9.out).below).below⟩
            have q4 : decide ((100 : Int) < (vl.size : Int)) = false := decide_eq_false (by omega)
            by_cases h4 : kd = 4
            · have q5 : ((kd : Int) == 4) = true := by rw [h4]; rfl
              go_wp2_with (go_at_call 13; refine (HAW.out _).mono ?_; rintro e w9 ⟨rfl, hb⟩; have HB9 := Lib.hid hb; clear hb)
              go_ret
              exact ⟨rfl, (HHW.out _ (HR.out.step HB9.out).below).below⟩
            have q5 : ((kd : Int) == 4) = false := beq_eq_false_iff_ne.2 (by omega)
            go_upto_region 9 with fail
            go_wp2_with fail
            refine (rput_any kd ix nm vl hkx _).mono ?_
            clear i0c i1c i2c i3c
            rintro e w5 (⟨hc0, rfl, hb⟩ | ⟨hc0, v, rfl, ho, hb⟩)
            · have q6 : ((chkI ⟨kd, ix, nm, vl⟩ : Int) != 0) = true := by simp; omega
              replace HR := Lib.hid (HR.out.step hb)
              generalize chkI ⟨kd, ix, nm, vl⟩ = cc at q6 ⊢
              clear hb hx hc0
              go_wp2_with (go_at_call 13; refine (HAW.out _).mono ?_; rintro e w9 ⟨rfl, hb⟩; have HB9 := Lib.hid hb; clear hb)
              go_ret
              exact ⟨rfl, (HHW.out _ (HR.out.step HB9.out).below).below⟩
            · have HOV := Lib.hid ho
              replace HR := Lib.hid (HR.out.step hb)
              have hbl := itemN_len100 ⟨kd, ix, nm, vl⟩ hc0 (by show nm.size ≤ _; omega) (by show vl.size ≤ _; omega)
              have hln := cat_len k ct HOK.out (by have := HKD.out.2.2; omega)
              have HOK2 := Lib.hid (HOK.out.more hx ⟨hc0, by show nm.size ≤ _; omega, by show vl.size ≤ _; omega⟩ h4)
              replace hbl : (itemN ⟨kd, ix, nm, vl⟩).length ≤ 208 := by dsimp only at hbl; omega
              clear ho hb hc0
              by_cases hc : ct ≤ k
              · have q7 : decide ((ct : Int) ≤ (k : Int)) = true := decide_eq_true (by omega)
                have HP := Lib.hid (cat_hi (c := ct) hx hc)
                clear hx
                generalize catI ((its.take k).take ct) = p0 at HR HP hln
                generalize catI ((its.take k).drop ct) = p1 at HR HP hln
                generalize itemN ⟨kd, ix, nm, vl⟩ = bs at HOV HP hbl
                obtain ⟨og, cg, rfl, hby, hcg, hlg, _⟩ := HOV.out.form3
                have HBY := Lib.hid hby
                have HWS := Lib.hid (show wB.heap.size + 1 ≤ w5.heap.size from HR.out.gt)
                generalize hbn : bs.length = nb at hbl hcg
                have HBN := Lib.hid hbn
                have r0 := HR.out.c0
                have r1 := HR.out.c1
                have z0 := HR.out.z 0
                have z1 := HR.out.z 1
                have HLN := Lib.hid (And.intro hln hbl)
                clear hby hcg hlg hbn hln hbl HOV
                go_upto_region 6 with (first | (at_builtin; refine wpList_appB rfl _ _ rfl (wB.heap.size + 1) v1 p1 rfl HR.out.o1 og nb cg bs rfl HBN.out HBY.out (by have := HLN.out; omega) HWS.out ?_; intro v2 w6 hown hg hat; obtain ⟨o2, c2, hv2, _, _, _, _⟩ := hown.form3; generalize (p1 ++ bs).length = nq at hv2; subst hv2; have HR6 := Lib.hid (HR.out.put1 hg hown hat); have HRX := Lib.hid (HR.out.grownRow HR.out.o1 hg); clear hown hg hat; have z1 := frozen_of_row _ _ 1 _ _ HRX.out.1; have x1 := cell_of_row _ _ 1 _ _ _ HRX.out.1))
                clear r0 r1 z0 z1 HRX HR
                go_wp2_with fail
                go_roundw
                case rel => exact ⟨k + 1, v0, _, by go_num, by omega, HOK2.out, by rw [HP.out.1, HP.out.2]; exact HR6.out⟩
                case measure => simp [intOf]; omega
              · have q7 : decide ((ct : Int) ≤ (k : Int)) = false := decide_eq_false (by omega)
                have HP := Lib.hid (cat_lo (c := ct) hx (by omega))
                clear hx
                generalize catI ((its.take k).take ct) = p0 at HR HP hln
                generalize catI ((its.take k).drop ct) = p1 at HR HP hln
                generalize itemN ⟨kd, ix, nm, vl⟩ = bs at HOV HP hbl
                obtain ⟨og, cg, rfl, hby, hcg, hlg, _⟩ := HOV.out.form3
                have HBY := Lib.hid hby
                have HWS := Lib.hid (show wB.heap.size + 1 ≤ w5.heap.size from HR.out.gt)
                generalize hbn : bs.length = nb at hbl hcg
                have HBN := Lib.hid hbn
                have r0 := HR.out.c0
                have r1 := HR.out.c1
                have z0 := HR.out.z 0
                have z1 := HR.out.z 1
                have HLN := Lib.hid (And.intro hln hbl)
                clear hby hcg hlg hbn hln hbl HOV
                go_upto_region 6 with (first | (at_builtin; refine wpList_appB rfl _ _ rfl (wB.heap.size + 1) v0 p0 rfl HR.out.o0 og nb cg bs rfl HBN.out HBY.out (by have := HLN.out; omega) HWS.out ?_; intro v2 w6 hown hg hat; obtain ⟨o2, c2, hv2, _, _, _, _⟩ := hown.form3; generalize (p0 ++ bs).length = nq at hv2; subst hv2; have HR6 := Lib.hid (HR.out.put0 hg hown hat); have HRX := Lib.hid (HR.out.grownRow HR.out.o0 hg); clear hown hg hat; have z0 := frozen_of_row _ _ 0 _ _ HRX.out.1; have x0 := cell_of_row _ _ 0 _ _ _ HRX.out.1))
                clear r0 r1 z0 z1 HRX HR
                go_wp2_with fail
                go_roundw
                case rel => exact ⟨k + 1, _, v1, by go_num, by omega, HOK2.out, by rw [HP.out.1, HP.out.2]; exact HR6.out⟩
                case measure => simp [intOf]; omega
          · obtain rfl : k = m := by omega
            have q2 : decide ((k : Int) < (k : Int)) = false := by simp
            have HTK := Lib.hid (show its.take k = its from List.take_of_length_le (by rw [HKD.out.1]; exact Nat.le_refl _))
            have HPL0 := cat_len k ct HOK.out HKD.out.2.2
            rw [HTK.out] at HOK HR HPL0
            clear HTK
            have HOA := Lib.hid (show ∀ x ∈ its.take ct, OkI x from fun x hx => (HOK.out x (List.mem_of_mem_take hx)).1)
            have HOB := Lib.hid (show ∀ x ∈ its.drop ct, OkI x from fun x hx => (HOK.out x (List.mem_of_mem_drop hx)).1)
            have HLAW := Lib.hid (great_law mx cp L (its.take ct) (its.drop ct) HHC.out HOA.out HOB.out (fun x hx => (HOK.out x (List.mem_of_mem_take hx)).2) (fun x hx => (HOK.out x (List.mem_of_mem_drop hx)).2))
            have HC0 := Lib.hid (catI_bytes (its.take ct) HOA.out)
            have HC1 := Lib.hid (catI_bytes (its.drop ct) HOB.out)
            generalize catI (its.take ct) = p0 at HR HPL0 HLAW HC0
            generalize catI (its.drop ct) = p1 at HR HPL0 HLAW HC1
            have HPL := Lib.hid HPL0
            clear HOA HOB HOK HPL0 HKD HIT
            have HB256 := Lib.hid (show ∀ bs : List Nat, (∀ y ∈ bs, y < 256) → ∀ i, i < bs.length → bs.getD i 0 < 256 from fun bs h i hi => by
              rw [List.getD_eq_getElem?_getD, List.getElem?_eq_getElem hi]
              exact h _ (List.getElem_mem hi))
            have HGX := Lib.hid (show ∀ W, Below wr.heap.size wr W → Gs w mx cp (.slice oa n cap) W from fun W hW => HHW.out W (bs_hd HR.out.below hW))
            have HBX := Lib.hid (show ∀ W, Below wr.heap.size wr W → ∀ b8 c8, (p0 ++ p1).length ≤ c8 → BytesN W b8 (p0 ++ p1) → Calls Try.prog 27 #[.agg #[.int .i64 mx, .slice oa n cap, .int .i64 cp], .slice b8 (p0 ++ p1).length c8] W (BlkPost mx cp L (p0 ++ p1) W) from fun W hW b8 c8 hc hy =>
              hblock_any mx cp oa n cap L HN.out.1 HN.out.2.1 HN.out.2.2.1 HN.out.2.2.2 b8 _ c8 (p0 ++ p1) rfl hc (by have := HPL.out; rw [List.length_append]; omega) W (HFW.out _ (HGX.out _ hW).below) hy (HB256.out _ (fun y hy => by rcases List.mem_append.1 hy with h | h; exact HC0.out y h; exact HC1.out y h)))
            have HBY := Lib.hid (show ∀ W, Below wr.heap.size wr W → ∀ b8 c8, p0.length ≤ c8 → BytesN W b8 p0 → Calls Try.prog 27 #[.agg #[.int .i64 mx, .slice oa n cap, .int .i64 cp], .slice b8 p0.length c8] W (BlkPost mx cp L p0 W) from fun W hW b8 c8 hc hy =>
              hblock_any mx cp oa n cap L HN.out.1 HN.out.2.1 HN.out.2.2.1 HN.out.2.2.2 b8 _ c8 p0 rfl hc (by have := HPL.out; omega) W (HFW.out _ (HGX.out _ hW).below) hy (HB256.out _ HC0.out))
            have HYK := Lib.hid (hBlk_chk mx cp L p0 HHC.out)
            unfold BlkPost at HBX HBY
            have HXE : Hid (∃ X, hBlk mx cp L (p0 ++ p1) = X) := Lib.hid ⟨_, rfl⟩
            obtain ⟨X, hX⟩ := HXE.out
            obtain ⟨Y, hY⟩ : ∃ Y, hBlk mx cp L p0 = Y := ⟨_, rfl⟩
            obtain ⟨Z, hZ⟩ : ∃ Z, hBlk Y.1 cp Y.2.1 p1 = Z := ⟨_, rfl⟩
            replace HLAW := Lib.hid (HLAW.out X Y Z hX hY hZ)
            rw [hX] at HBX
            have HTY := Lib.hid (told_few (mx := mx) (cp := cp) (L := L) (bs := p0))
            rw [hY] at HBY HYK HTY
            have HZ := Lib.hid hZ
            clear hX hY hZ HXE
            obtain ⟨x1, x2, x3, x4, x5⟩ := X
            obtain ⟨y1, y2, y3, y4, y5⟩ := Y
            dsimp only at HBX HBY HLAW HYK HZ HTY
            obtain ⟨a0, cap0, rfl, hby0, hcp0, _, _⟩ := HR.out.o0.form3
            obtain ⟨a1, cap1, rfl, hby1, hcp1, _, _⟩ := HR.out.o1.form3
            have HPC0 := Lib.hid hcp0
            have HPC1 := Lib.hid hcp1
            have HP0 := Lib.hid (show ∀ W, Below wr.heap.size wr W → BytesN W a0 p0 from fun W hW => hby0.below hW)
            have HP1 := Lib.hid (show ∀ W, Below wr.heap.size wr W → BytesN W a1 p1 from fun W hW => hby1.below hW)
            clear hby0 hby1 hcp0 hcp1
            go_upto_region 16 with fail
            go_cut [12, 13, 14, 15] (fun v1 v2 v3 v4 wx => ∃ (g12 : Nat) (o1 : Option Addr) (n1 c1 : Nat) (f1 : Option Addr) (m1 d1 : Nat), v1 = .pointer (some ⟨g12, 0, none⟩) ∧ v2 = .slice f1 m1 d1 ∧ v3 = .bool x4 ∧ v4 = .int .i64 x5 ∧ HRow wx g12 x1 (.slice o1 n1 c1) cp ∧ (x2.length = n1 ∧ n1 ≤ c1 ∧ x3.length = m1 ∧ m1 ≤ d1) ∧ FieldsN wx o1 x2 ∧ FieldsN wx f1 x3 ∧ Below wr.heap.size wr wx)
            case first =>
              have HRD := Lib.hid (show Below wr.heap.size wr wr.drew from (Below.refl _ _).drew)
              refine wp_region_held_drew (S := fun W => Below wr.heap.size wr W) (by kernel_rfl) HRD.out (fun hHeld => ?_)
              clear HRD
              refine wpAnyH_takeD (i := 0) (v := ?_) (some 93) rfl rfl rfl (by kernel_rfl) (by kernel_rfl) (by kernel_rfl) (fun _ _ _ h => h) ?_ (by assumption) ?_
              rotate_left
              · intro W hW
                have c0 := (HGX.out _ hW).st.c0
                have c1 := (HGX.out _ hW).st.c1
                have c2 := (HGX.out _ hW).st.c2
                go_simp
                with_reducible rfl
              try simp only [Act.put, List.setIfInBounds_toArray, List.set_cons_zero, List.set_cons_succ]
              refine wpAnyH_takeD (i := 3) (v := ?_) (some 96) rfl rfl rfl (by kernel_rfl) (by kernel_rfl) (by kernel_rfl) (fun _ _ _ h => h) ?_ (by assumption) ?_
              rotate_left
              · intro W hW
                go_simp
                with_reducible rfl
              try simp only [Act.put, List.setIfInBounds_toArray, List.set_cons_zero, List.set_cons_succ]
              refine wpAnyH_takeD (i := 4) (v := ?_) (some 97) rfl rfl rfl (by kernel_rfl) (by kernel_rfl) (by kernel_rfl) (fun _ _ _ h => h) ?_ (by assumption) ?_
              rotate_left
              · intro W hW
                have r0 := (HR.out.step hW).c0
                go_simp
                with_reducible rfl
              try simp only [Act.put, List.setIfInBounds_toArray, List.set_cons_zero, List.set_cons_succ]
              refine wpAnyH_takeD (i := 6) (v := ?_) (some 99) rfl rfl rfl (by kernel_rfl) (by kernel_rfl) (by kernel_rfl) (fun _ _ _ h => h) ?_ (by assumption) ?_
              rotate_left
              · intro W hW
                go_simp
                with_reducible rfl
              try simp only [Act.put, List.setIfInBounds_toArray, List.set_cons_zero, List.set_cons_succ]
              refine wpAnyH_takeD (i := 7) (v := ?_) (some 100) rfl rfl rfl (by kernel_rfl) (by kernel_rfl) (by kernel_rfl) (fun _ _ _ h => h) ?_ (by assumption) ?_
              rotate_left
              · intro W hW
                have r1 := (HR.out.step hW).c1
                go_simp
                with_reducible rfl
              try simp only [Act.put, List.setIfInBounds_toArray, List.set_cons_zero, List.set_cons_succ]
              refine name_act (fun A hA => ?_)
              have Q0 : Below wr.heap.size wr wr.drew := hHeld
              clear hHeld
              refine (f2_step (p := 15) (q := 1) (c := 2) (dp := 12) (dq := 94) (J := (fun fp fq a W => a = A ∧ Below wr.heap.size wr W ∧ ZV wr.heap.size (.cells #[.int .i64 0, .slice none 0 0, .int .i64 0] 45) fp W ∧ ∀ v, fq = some v → v = (.agg #[.int .i64 mx, .slice oa n cap, .int .i64 cp]))) (J' := (fun fp fq a W => ∃ v2, a = A.put (some 95) v2 ∧ (OwnB W wr.heap.size v2 [] ∧ SV fp v2) ∧ Below wr.heap.size wr W ∧ ZV wr.heap.size (.cells #[.int .i64 0, .slice none 0 0, .int .i64 0] 45) fp W ∧ ∀ v, fq = some v → v = (.agg #[.int .i64 mx, .slice oa n cap, .int .i64 cp]))) (L := (fun b b' => #[true, b', false, true, true, false, true, true, false, false, false, false, false, false, false, b, false, false, false, false])) (L' := (fun b b' => #[true, b', true, true, true, false, true, true, false, false, false, false, false, false, false, b, false, false, false, false]))
                (by intro b; cases b <;> rfl) (by intro b; cases b <;> rfl) (by intro b b'; cases b <;> cases b' <;> rfl) (by kernel_rfl) (by kernel_rfl) (by kernel_rfl) (by kernel_rfl) (by decide)
                rfl (by kernel_rfl) (by kernel_rfl) (by simp) (by simp) (by simp) rfl (by kernel_rfl) (by simp) (by simp) rfl (by kernel_rfl) (by simp) (by simp) (fun d v c a w h => h)
                ?_ ?_ ?_ (fun _ _ _ _ ⟨_, h, _⟩ => h) (fun _ _ _ _ ⟨_, _, _, h, _⟩ => h) 12 ?_) none none A wr.drew ⟨rfl, Q0, ZV.noth _ _ _, fun v hv => by cases hv⟩
              · rintro fq a W ⟨rfl, hb, hz, hv⟩
                refine Makes.wpOp (z := (.cells #[.int .i64 0, .slice none 0 0, .int .i64 0] 45)) (makes_hst rfl rfl rfl rfl) ⟨_, rfl, rfl, hb.trans ((below_new _).mono hb.size), ZV.made _ hb.size, hv⟩
              · rintro fp a W ⟨rfl, hb, hz, hv⟩
                refine wpOp_call (HOW.out W) rfl rfl rfl (exec_call rfl (by rw [hA]; rfl) W (by go_simp)) ?_
                rintro e W' ⟨rfl, hb2⟩
                exact ⟨_, rfl, _, rfl, rfl, hb.trans (hb2.mono hb.size), hz.step hb2, fun v hv => (Option.some.inj hv).symm⟩
              · rintro fp fq a W ⟨rfl, hb, hz, hv⟩
                exact wpOp_slice0 rfl rfl rfl rfl ⟨_, rfl, ⟨ownB_made _ _ hb.size, SV.fresh hz rfl⟩, hb.trans ((below_new _).mono hb.size), hz.step (below_new _), hv⟩
              refine f2_step (p := 15) (q := 1) (c := 5) (dp := 12) (dq := 94) (J := (fun fp fq a W => ∃ v2, a = A.put (some 95) v2 ∧ (OwnB W wr.heap.size v2 [] ∧ SV fp v2) ∧ Below wr.heap.size wr W ∧ ZV wr.heap.size (.cells #[.int .i64 0, .slice none 0 0, .int .i64 0] 45) fp W ∧ ∀ v, fq = some v → v = (.agg #[.int .i64 mx, .slice oa n cap, .int .i64 cp]))) (J' := (fun fp fq a W => ∃ v2 v5, a = (A.put (some 95) v2).put (some 98) v5 ∧ (OwnB W wr.heap.size v5 p0 ∧ SV fp v5) ∧ Below wr.heap.size wr W ∧ ZV wr.heap.size (.cells #[.int .i64 0, .slice none 0 0, .int .i64 0] 45) fp W ∧ ∀ v, fq = some v → v = (.agg #[.int .i64 mx, .slice oa n cap, .int .i64 cp]))) (L := (fun b b' => #[true, b', true, true, true, false, true, true, false, false, false, false, false, false, false, b, false, false, false, false])) (L' := (fun b b' => #[true, b', true, true, true, true, true, true, false, false, false, false, false, false, false, b, false, false, false, false]))
                (by intro b; cases b <;> rfl) (by intro b; cases b <;> rfl) (by intro b b'; cases b <;> cases b' <;> rfl) (by kernel_rfl) (by kernel_rfl) (by kernel_rfl) (by kernel_rfl) (by decide)
                rfl (by kernel_rfl) (by kernel_rfl) (by simp) (by simp) (by simp) rfl (by kernel_rfl) (by simp) (by simp) rfl (by kernel_rfl) (by simp) (by simp) (fun d v c a w h => h)
                ?_ ?_ ?_ (fun _ _ _ _ ⟨_, _, _, h, _⟩ => h) (fun _ _ _ _ ⟨_, _, _, _, h, _⟩ => h) 11 ?_
              · rintro fq a W ⟨v2, rfl, ⟨ho, hs⟩, hb, hz, hv⟩
                refine Makes.wpOp (z := (.cells #[.int .i64 0, .slice none 0 0, .int .i64 0] 45)) (makes_hst rfl rfl rfl rfl) ⟨_, rfl, v2, rfl, ⟨ho.keep (fun g hg => (below_new _).block g (ho.own_lt g hg).2), SV.made ho⟩, hb.trans ((below_new _).mono hb.size), ZV.made _ hb.size, hv⟩
              · rintro fp a W ⟨v2, rfl, ⟨ho, hs⟩, hb, hz, hv⟩
                refine wpOp_call (HOW.out W) rfl rfl rfl (exec_call rfl (by rw [hA]; rfl) W (by go_simp)) ?_
                rintro e W' ⟨rfl, hb2⟩
                exact ⟨_, rfl, _, rfl, v2, rfl, ⟨ho.keep (fun g hg => hb2.block g (ho.own_lt g hg).2), hs⟩, hb.trans (hb2.mono hb.size), hz.step hb2, fun v hv => (Option.some.inj hv).symm⟩
              · rintro fp fq a W ⟨v2, rfl, ⟨ho, hs⟩, hb, hz, hv⟩
                refine wpOp_appB rfl rfl rfl _ _ rfl wr.heap.size v2 [] (by rw [hA]; rfl) ho a0 p0.length cap0 p0 (by rw [hA]; rfl) rfl (HP0.out _ hb) (by have := HPL.out; simp only [List.length_nil]; omega) hb.size ?_
                intro v5 W' hown hg hat
                exact ⟨v2, v5, rfl, ⟨hown, hs.next hz hat⟩, hb.grown hg hb.size (fun k hk => (ho.own_lt k hk).1), hz.grown hs hg, hv⟩
              refine f2_step (p := 15) (q := 1) (c := 8) (dp := 12) (dq := 94) (J := (fun fp fq a W => ∃ v2 v5, a = (A.put (some 95) v2).put (some 98) v5 ∧ (OwnB W wr.heap.size v5 p0 ∧ SV fp v5) ∧ Below wr.heap.size wr W ∧ ZV wr.heap.size (.cells #[.int .i64 0, .slice none 0 0, .int .i64 0] 45) fp W ∧ ∀ v, fq = some v → v = (.agg #[.int .i64 mx, .slice oa n cap, .int .i64 cp]))) (J' := (fun fp fq a W => ∃ v2 v5 v8, a = ((A.put (some 95) v2).put (some 98) v5).put (some 101) v8 ∧ (OwnB W wr.heap.size v8 (p0 ++ p1) ∧ SV fp v8) ∧ Below wr.heap.size wr W ∧ ZV wr.heap.size (.cells #[.int .i64 0, .slice none 0 0, .int .i64 0] 45) fp W ∧ ∀ v, fq = some v → v = (.agg #[.int .i64 mx, .slice oa n cap, .int .i64 cp]))) (L := (fun b b' => #[true, b', true, true, true, true, true, true, false, false, false, false, false, false, false, b, false, false, false, false])) (L' := (fun b b' => #[true, b', true, true, true, true, true, true, true, false, false, false, false, false, false, b, false, false, false, false]))
                (by intro b; cases b <;> rfl) (by intro b; cases b <;> rfl) (by intro b b'; cases b <;> cases b' <;> rfl) (by kernel_rfl) (by kernel_rfl) (by kernel_rfl) (by kernel_rfl) (by decide)
                rfl (by kernel_rfl) (by kernel_rfl) (by simp) (by simp) (by simp) rfl (by kernel_rfl) (by simp) (by simp) rfl (by kernel_rfl) (by simp) (by simp) (fun d v c a w h => h)
                ?_ ?_ ?_ (fun _ _ _ _ ⟨_, _, _, _, h, _⟩ => h) (fun _ _ _ _ ⟨_, _, _, _, _, h, _⟩ => h) 10 ?_
              · rintro fq a W ⟨v2, v5, rfl, ⟨ho, hs⟩, hb, hz, hv⟩
                refine Makes.wpOp (z := (.cells #[.int .i64 0, .slice none 0 0, .int .i64 0] 45)) (makes_hst rfl rfl rfl rfl) ⟨_, rfl, v2, v5, rfl, ⟨ho.keep (fun g hg => (below_new _).block g (ho.own_lt g hg).2), SV.made ho⟩, hb.trans ((below_new _).mono hb.size), ZV.made _ hb.size, hv⟩
              · rintro fp a W ⟨v2, v5, rfl, ⟨ho, hs⟩, hb, hz, hv⟩
                refine wpOp_call (HOW.out W) rfl rfl rfl (exec_call rfl (by rw [hA]; rfl) W (by go_simp)) ?_
                rintro e W' ⟨rfl, hb2⟩
                exact ⟨_, rfl, _, rfl, v2, v5, rfl, ⟨ho.keep (fun g hg => hb2.block g (ho.own_lt g hg).2), hs⟩, hb.trans (hb2.mono hb.size), hz.step hb2, fun v hv => (Option.some.inj hv).symm⟩
              · rintro fp fq a W ⟨v2, v5, rfl, ⟨ho, hs⟩, hb, hz, hv⟩
                refine wpOp_appB rfl rfl rfl _ _ rfl wr.heap.size v5 p0 (by rw [hA]; rfl) ho a1 p1.length cap1 p1 (by rw [hA]; rfl) rfl (HP1.out _ hb) (by have := HPL.out; omega) hb.size ?_
                intro v8 W' hown hg hat
                exact ⟨v2, v5, v8, rfl, ⟨hown, hs.next hz hat⟩, hb.grown hg hb.size (fun k hk => (ho.own_lt k hk).1), hz.grown hs hg, hv⟩
              refine f2_close (p := 15) (q := 1) (dp := 12) (dq := 94) (J := (fun fp fq a W => ∃ v2 v5 v8, a = ((A.put (some 95) v2).put (some 98) v5).put (some 101) v8 ∧ (OwnB W wr.heap.size v8 (p0 ++ p1) ∧ SV fp v8) ∧ Below wr.heap.size wr W ∧ ZV wr.heap.size (.cells #[.int .i64 0, .slice none 0 0, .int .i64 0] 45) fp W ∧ ∀ v, fq = some v → v = (.agg #[.int .i64 mx, .slice oa n cap, .int .i64 cp]))) (L := (fun b b' => #[true, b', true, true, true, true, true, true, true, false, false, false, false, false, false, b, false, false, false, false]))
                (by intro b; cases b <;> rfl) (by intro b; cases b <;> rfl) (by kernel_rfl) (by kernel_rfl) (by decide) rfl (by kernel_rfl) (by simp) (by simp) (fun d v c a w h => h) ?_ ?_ (fun _ _ _ _ ⟨_, _, _, _, _, h, _⟩ => h) 10 ?_
              · rintro fq a W ⟨v2, v5, v8, rfl, ⟨ho, hs⟩, hb, hz, hv⟩
                refine Makes.wpOp (z := (.cells #[.int .i64 0, .slice none 0 0, .int .i64 0] 45)) (makes_hst rfl rfl rfl rfl) ⟨_, rfl, v2, v5, v8, rfl, ⟨ho.keep (fun g hg => (below_new _).block g (ho.own_lt g hg).2), SV.made ho⟩, hb.trans ((below_new _).mono hb.size), ZV.made _ hb.size, hv⟩
              · rintro fp a W ⟨v2, v5, v8, rfl, ⟨ho, hs⟩, hb, hz, hv⟩
                refine wpOp_call (HOW.out W) rfl rfl rfl (exec_call rfl (by rw [hA]; rfl) W (by go_simp)) ?_
                rintro e W' ⟨rfl, hb2⟩
                exact ⟨_, rfl, _, rfl, v2, v5, v8, rfl, ⟨ho.keep (fun g hg => hb2.block g (ho.own_lt g hg).2), hs⟩, hb.trans (hb2.mono hb.size), hz.step hb2, fun v hv => (Option.some.inj hv).symm⟩
              rintro fp gq a W ⟨v2, v5, v8, rfl, ⟨ho, hs⟩, hb, hz, hv⟩
              obtain rfl := hv gq rfl
              obtain ⟨a8, cap8, rfl, hby, hcp, _, _⟩ := ho.form3
              have HPC := Lib.hid hcp
              have q3 : BytesN W a8 (p0 ++ p1) ∧ Below wr.heap.size wr W ∧ ZV wr.heap.size (.cells #[.int .i64 0, .slice none 0 0, .int .i64 0] 45) fp W := ⟨hby, hb, hz⟩
              clear ho hs hb hz hv hby hcp
              obtain ⟨A2, hA2⟩ : ∃ A2, A2 = (((A.put (some 95) v2).put (some 98) v5).put (some 101) (.slice a8 (p0 ++ p1).length cap8)).put (some 94) (.agg #[.int .i64 mx, .slice oa n cap, .int .i64 cp]) := ⟨_, rfl⟩
              rw [← hA2]
              rw [hA] at hA2
              simp only [Act.put, List.setIfInBounds_toArray, List.set_cons_zero, List.set_cons_succ] at hA2
              clear hA
              have q4 : A2 = A2 ∧ BytesN W a8 (p0 ++ p1) ∧ Below wr.heap.size wr W ∧ ZV wr.heap.size (.cells #[.int .i64 0, .slice none 0 0, .int .i64 0] 45) fp W := ⟨rfl, q3⟩
              clear q3
              revert q4
              refine f1_step (p := 15) (c := 9) (dp := 12) (J := (fun fp a W => a = A2 ∧ BytesN W a8 (p0 ++ p1) ∧ Below wr.heap.size wr W ∧ ZV wr.heap.size (.cells #[.int .i64 0, .slice none 0 0, .int .i64 0] 45) fp W)) (J' := (fun fp a W => ∃ o1 n1 c1 f1 m1 d1, a = A2.put (some 102) (.tuple #[.agg #[.int .i64 x1, .slice o1 n1 c1, .int .i64 cp], .slice f1 m1 d1, .bool x4, .int .i64 x5]) ∧ (x2.length = n1 ∧ n1 ≤ c1 ∧ x3.length = m1 ∧ m1 ≤ d1) ∧ (FieldsN W o1 x2 ∧ FieldsN W f1 x3) ∧ Below wr.heap.size wr W ∧ ZV wr.heap.size (.cells #[.int .i64 0, .slice none 0 0, .int .i64 0] 45) fp W)) (L := (fun b => #[true, true, true, true, true, true, true, true, true, false, false, false, false, false, false, b, false, false, false, false])) (L' := (fun b => #[true, true, true, true, true, true, true, true, true, true, false, false, false, false, false, b, false, false, false, false]))
                rfl (by intro b; cases b <;> rfl) (by kernel_rfl) (by kernel_rfl) rfl (by kernel_rfl) (by simp) (by simp) (fun d v c a w h => h) ?_ ?_ (fun _ _ _ ⟨_, _, h, _⟩ => h) (fun _ _ _ ⟨_, _, _, _, _, _, _, _, _, h, _⟩ => h) 9 ?_ fp A2 W
              · rintro a W ⟨rfl, hy, hb, hz⟩
                refine Makes.wpOp (z := (.cells #[.int .i64 0, .slice none 0 0, .int .i64 0] 45)) (makes_hst rfl rfl rfl rfl) ⟨_, rfl, rfl, hy.below (below_new _), hb.trans ((below_new _).mono hb.size), ZV.made _ hb.size⟩
              · rintro fp a W ⟨rfl, hy, hb, hz⟩
                refine wpOp_call (HBX.out W hb a8 cap8 HPC.out hy) rfl rfl rfl (exec_call rfl (by rw [hA2]; rfl) W (by go_simp)) ?_
                rintro e W' ⟨o1, n1, c1, f1, m1, d1, rfl, h1, h2, h3, h4, h5, h6, hb2⟩
                exact ⟨_, rfl, o1, n1, c1, f1, m1, d1, rfl, ⟨h1, h2, h4, h5⟩, ⟨h3, h6⟩, hb.trans (hb2.mono hb.size), hz.step hb2⟩
              rintro fp a W ⟨o1, n1, c1, f1, m1, d1, rfl, hl, hf, hb, hz⟩
              have HLN := Lib.hid hl
              have q3 : (FieldsN W o1 x2 ∧ FieldsN W f1 x3) ∧ Below wr.heap.size wr W ∧ ZV wr.heap.size (.cells #[.int .i64 0, .slice none 0 0, .int .i64 0] 45) fp W := ⟨hf, hb, hz⟩
              clear hl hf hb hz
              revert q3
              revert W
              revert fp
              refine f1_take (c := 10) (dp := 12) (d := 92) (v := (.tuple #[.agg #[.int .i64 x1, .slice o1 n1 c1, .int .i64 cp], .slice f1 m1 d1, .bool x4, .int .i64 x5])) (J := (fun fp W => (FieldsN W o1 x2 ∧ FieldsN W f1 x3) ∧ Below wr.heap.size wr W ∧ ZV wr.heap.size (.cells #[.int .i64 0, .slice none 0 0, .int .i64 0] 45) fp W)) (L := (fun b => #[true, true, true, true, true, true, true, true, true, true, false, false, false, false, false, b, false, false, false, false])) (L' := (fun b => #[true, true, true, true, true, true, true, true, true, true, true, false, false, false, false, b, false, false, false, false]))
                (by intro b; cases b <;> rfl) (by intro b; cases b <;> kernel_rfl) (by intro b; cases b <;> kernel_rfl) rfl rfl rfl (by kernel_rfl) (by decide) (by kernel_rfl) (fun c a w h => h) (by intro W _; exact exec_move rfl (by rw [hA2]; rfl) W) (fun _ _ h => h.2.1) 8 ?_
              refine f1_take (c := 11) (dp := 12) (d := 103) (v := (.agg #[.int .i64 x1, .slice o1 n1 c1, .int .i64 cp])) (J := (fun fp W => (FieldsN W o1 x2 ∧ FieldsN W f1 x3) ∧ Below wr.heap.size wr W ∧ ZV wr.heap.size (.cells #[.int .i64 0, .slice none 0 0, .int .i64 0] 45) fp W)) (L := (fun b => #[true, true, true, true, true, true, true, true, true, true, true, false, false, false, false, b, false, false, false, false])) (L' := (fun b => #[true, true, true, true, true, true, true, true, true, true, true, true, false, false, false, b, false, false, false, false]))
                (by intro b; cases b <;> rfl) (by intro b; cases b <;> kernel_rfl) (by intro b; cases b <;> kernel_rfl) rfl rfl rfl (by kernel_rfl) (by decide) (by kernel_rfl) (fun c a w h => h) (by intro W _; exact exec_extract rfl (by rw [hA2]; rfl) rfl W) (fun _ _ h => h.2.1) 7 ?_
              refine f1_take (c := 12) (dp := 12) (d := 104) (v := (.slice f1 m1 d1)) (J := (fun fp W => (FieldsN W o1 x2 ∧ FieldsN W f1 x3) ∧ Below wr.heap.size wr W ∧ ZV wr.heap.size (.cells #[.int .i64 0, .slice none 0 0, .int .i64 0] 45) fp W)) (L := (fun b => #[true, true, true, true, true, true, true, true, true, true, true, true, false, false, false, b, false, false, false, false])) (L' := (fun b => #[true, true, true, true, true, true, true, true, true, true, true, true, true, false, false, b, false, false, false, false]))
                (by intro b; cases b <;> rfl) (by intro b; cases b <;> kernel_rfl) (by intro b; cases b <;> kernel_rfl) rfl rfl rfl (by kernel_rfl) (by decide) (by kernel_rfl) (fun c a w h => h) (by intro W _; exact exec_extract rfl (by rw [hA2]; rfl) rfl W) (fun _ _ h => h.2.1) 6 ?_
              refine f1_take (c := 13) (dp := 12) (d := 105) (v := (.bool x4)) (J := (fun fp W => (FieldsN W o1 x2 ∧ FieldsN W f1 x3) ∧ Below wr.heap.size wr W ∧ ZV wr.heap.size (.cells #[.int .i64 0, .slice none 0 0, .int .i64 0] 45) fp W)) (L := (fun b => #[true, true, true, true, true, true, true, true, true, true, true, true, true, false, false, b, false, false, false, false])) (L' := (fun b => #[true, true, true, true, true, true, true, true, true, true, true, true, true, true, false, b, false, false, false, false]))
                (by intro b; cases b <;> rfl) (by intro b; cases b <;> kernel_rfl) (by intro b; cases b <;> kernel_rfl) rfl rfl rfl (by kernel_rfl) (by decide) (by kernel_rfl) (fun c a w h => h) (by intro W _; exact exec_extract rfl (by rw [hA2]; rfl) rfl W) (fun _ _ h => h.2.1) 5 ?_
              refine f1_take (c := 14) (dp := 12) (d := 106) (v := (.int .i64 x5)) (J := (fun fp W => (FieldsN W o1 x2 ∧ FieldsN W f1 x3) ∧ Below wr.heap.size wr W ∧ ZV wr.heap.size (.cells #[.int .i64 0, .slice none 0 0, .int .i64 0] 45) fp W)) (L := (fun b => #[true, true, true, true, true, true, true, true, true, true, true, true, true, true, false, b, false, false, false, false])) (L' := (fun b => #[true, true, true, true, true, true, true, true, true, true, true, true, true, true, true, b, false, false, false, false]))
                (by intro b; cases b <;> rfl) (by intro b; cases b <;> kernel_rfl) (by intro b; cases b <;> kernel_rfl) rfl rfl rfl (by kernel_rfl) (by decide) (by kernel_rfl) (fun c a w h => h) (by intro W _; exact exec_extract rfl (by rw [hA2]; rfl) rfl W) (fun _ _ h => h.2.1) 4 ?_
              refine f1_last (p := 15) (dp := 12) (J := (fun fp W => (FieldsN W o1 x2 ∧ FieldsN W f1 x3) ∧ Below wr.heap.size wr W ∧ ZV wr.heap.size (.cells #[.int .i64 0, .slice none 0 0, .int .i64 0] 45) fp W)) (L := (fun b => #[true, true, true, true, true, true, true, true, true, true, true, true, true, true, true, b, false, false, false, false])) rfl (by kernel_rfl) ?_ (fun _ _ h => h.2.1) 4 ?_
              · rintro W ⟨⟨h1, h2⟩, hb, hz⟩
                refine Makes.wpOp (z := (.cells #[.int .i64 0, .slice none 0 0, .int .i64 0] 45)) (makes_hst rfl rfl rfl rfl) ⟨_, rfl, ⟨h1.below (below_new _), h2.below (below_new _)⟩, hb.trans ((below_new _).mono hb.size), ZV.made _ hb.size⟩
              rintro gv W ⟨⟨h1, h2⟩, hb, hz⟩
              obtain ⟨g12, rfl, hg, hrow⟩ := hz _ rfl
              have HROW := Lib.hid hrow
              have HG := Lib.hid hg
              have HF := Lib.hid (And.intro h1 h2)
              have HB := Lib.hid hb
              clear hz hrow h1 h2 hb
              simp only [hA2, Act.put, List.setIfInBounds_toArray, List.set_cons_zero, List.set_cons_succ]
              clear hA2
              have HS1 := Lib.hid (sep_state HF.out.1 HROW.out (by intro s h; cases h) (by intro s h; cases h) (by intro s h; cases h))
              have HS2 := Lib.hid (sep_state HF.out.2 HROW.out (by intro s h; cases h) (by intro s h; cases h) (by intro s h; cases h))
              refine wpAnyH_store (i := 16) (by kernel_rfl) rfl rfl rfl _ _ _ rfl g12 #[.int .i64 x1, .slice o1 n1 c1, .int .i64 cp] rfl rfl 45 _ HROW.out (by kernel_rfl) rfl (by kernel_rfl) (below_row HB.out HG.out _) (fun hHeld => ?_)
              refine wpAnyH_takeD (i := 17) (v := ?_) (some 13) rfl rfl rfl (by kernel_rfl) (by kernel_rfl) (by kernel_rfl) (fun _ _ _ h => h) ?_ (by assumption) ?_
              rotate_left
              · intro W hW
                go_simp
                with_reducible rfl
              try simp only [Act.put, List.setIfInBounds_toArray, List.set_cons_zero, List.set_cons_succ]
              refine wpAnyH_takeD (i := 18) (v := ?_) (some 14) rfl rfl rfl (by kernel_rfl) (by kernel_rfl) (by kernel_rfl) (fun _ _ _ h => h) ?_ (by assumption) ?_
              rotate_left
              · intro W hW
                go_simp
                with_reducible rfl
              try simp only [Act.put, List.setIfInBounds_toArray, List.set_cons_zero, List.set_cons_succ]
              refine wpAnyH_takeD (i := 19) (v := ?_) (some 15) rfl rfl rfl (by kernel_rfl) (by kernel_rfl) (by kernel_rfl) (fun _ _ _ h => h) ?_ (by assumption) ?_
              rotate_left
              · intro W hW
                go_simp
                with_reducible rfl
              try simp only [Act.put, List.setIfInBounds_toArray, List.set_cons_zero, List.set_cons_succ]
              refine wpAnyH_done (by kernel_rfl) ?_ _
              have HVV := Lib.hid hHeld
              clear hHeld hg
              go_wp2_with fail
              go_meet
              exact ⟨g12, o1, n1, c1, f1, m1, d1, rfl, rfl, rfl, rfl, setRow_heap _ _ _ _ _ _ HROW.out, HLN.out, HF.out.1.setRow HS1.out _, HF.out.2.setRow HS2.out _, HVV.out⟩
            case rest =>
              obtain ⟨g12, ox, nx, cx, fx, mlx, dlx, rfl, rfl, rfl, rfl, h12, hlx, hfx, hgx, hbd⟩ := hcut
              obtain ⟨wd, hwd⟩ : ∃ wd, wd = wc := ⟨_, rfl⟩
              subst hwd
              have H12 := Lib.hid h12
              have HLX := Lib.hid hlx
              have HFX := Lib.hid (And.intro hfx hgx)
              replace HR := Lib.hid (HR.out.step hbd)
              replace HGX := Lib.hid (show ∀ W, Below wd.heap.size wd W → Gs w mx cp (.slice oa n cap) W from fun W hW => HGX.out W (hbd.trans (hW.mono hbd.size)))
              replace HP0 := Lib.hid (show ∀ W, Below wd.heap.size wd W → BytesN W a0 p0 from fun W hW => HP0.out W (hbd.trans (hW.mono hbd.size)))
              replace HP1 := Lib.hid (show ∀ W, Below wd.heap.size wd W → BytesN W a1 p1 from fun W hW => HP1.out W (hbd.trans (hW.mono hbd.size)))
              replace HBY := Lib.hid (fun W (hW : Below wd.heap.size wd W) => HBY.out W (hbd.trans (hW.mono hbd.size)))
              clear h12 hlx hfx hgx hbd HBX
              go_upto_region 17 with fail
              go_cut [16, 17, 18, 19] (fun v1 v2 v3 v4 wx => ∃ (g12 : Nat) (o1 : Option Addr) (n1 c1 : Nat) (f1 : Option Addr) (m1 d1 : Nat), v1 = .pointer (some ⟨g12, 0, none⟩) ∧ v2 = .slice f1 m1 d1 ∧ v3 = .bool y4 ∧ v4 = .int .i64 y5 ∧ HRow wx g12 y1 (.slice o1 n1 c1) cp ∧ (y2.length = n1 ∧ n1 ≤ c1 ∧ y3.length = m1 ∧ m1 ≤ d1) ∧ FieldsN wx o1 y2 ∧ FieldsN wx f1 y3 ∧ Below wd.heap.size wd wx)
              case first =>
                have HRD := Lib.hid (show Below wd.heap.size wd wd.drew from (Below.refl _ _).drew)
                refine wp_region_held_drew (S := fun W => Below wd.heap.size wd W) (by kernel_rfl) HRD.out (fun hHeld => ?_)
                clear HRD
                refine wpAnyH_takeD (i := 0) (v := ?_) (some 108) rfl rfl rfl (by kernel_rfl) (by kernel_rfl) (by kernel_rfl) (fun _ _ _ h => h) ?_ (by assumption) ?_
                rotate_left
                · intro W hW
                  have c0 := (HGX.out _ hW).st.c0
                  have c1 := (HGX.out _ hW).st.c1
                  have c2 := (HGX.out _ hW).st.c2
                  go_simp
                  with_reducible rfl
                try simp only [Act.put, List.setIfInBounds_toArray, List.set_cons_zero, List.set_cons_succ]
                refine wpAnyH_takeD (i := 2) (v := ?_) (some 110) rfl rfl rfl (by kernel_rfl) (by kernel_rfl) (by kernel_rfl) (fun _ _ _ h => h) ?_ (by assumption) ?_
                rotate_left
                · intro W hW
                  go_simp
                  with_reducible rfl
                try simp only [Act.put, List.setIfInBounds_toArray, List.set_cons_zero, List.set_cons_succ]
                refine wpAnyH_takeD (i := 3) (v := ?_) (some 111) rfl rfl rfl (by kernel_rfl) (by kernel_rfl) (by kernel_rfl) (fun _ _ _ h => h) ?_ (by assumption) ?_
                rotate_left
                · intro W hW
                  have r0 := (HR.out.step hW).c0
                  go_simp
                  with_reducible rfl
                try simp only [Act.put, List.setIfInBounds_toArray, List.set_cons_zero, List.set_cons_succ]
                refine name_act (fun A hA => ?_)
                have Q0 : Below wd.heap.size wd wd.drew := hHeld
                clear hHeld
                refine (f1_step (p := 10) (c := 1) (dp := 16) (J := (fun fp a W => a = A ∧ Below wd.heap.size wd W ∧ ZV wd.heap.size (.cells #[.int .i64 0, .slice none 0 0, .int .i64 0] 45) fp W)) (J' := (fun fp a W => a = A.put (some 109) (.agg #[.int .i64 mx, .slice oa n cap, .int .i64 cp]) ∧ Below wd.heap.size wd W ∧ ZV wd.heap.size (.cells #[.int .i64 0, .slice none 0 0, .int .i64 0] 45) fp W)) (L := (fun b => #[true, false, true, true, false, false, false, false, false, false, b, false, false, false, false])) (L' := (fun b => #[true, true, true, true, false, false, false, false, false, false, b, false, false, false, false]))
                  rfl (by intro b; cases b <;> rfl) (by kernel_rfl) (by kernel_rfl) rfl (by kernel_rfl) (by simp) (by simp) (fun d v c a w h => h) ?_ ?_ (fun _ _ _ ⟨_, h, _⟩ => h) (fun _ _ _ ⟨_, h, _⟩ => h) 10 ?_) none A wd.drew ⟨rfl, Q0, ZV.noth _ _ _⟩
                · rintro a W ⟨rfl, hb, hz⟩
                  refine Makes.wpOp (z := (.cells #[.int .i64 0, .slice none 0 0, .int .i64 0] 45)) (makes_hst rfl rfl rfl rfl) ⟨_, rfl, rfl, hb.trans ((below_new _).mono hb.size), ZV.made _ hb.size⟩
                · rintro fp a W ⟨rfl, hb, hz⟩
                  refine wpOp_call (HOW.out W) rfl rfl rfl (exec_call rfl (by rw [hA]; rfl) W (by go_simp)) ?_
                  rintro e W' ⟨rfl, hb2⟩
                  exact ⟨_, rfl, rfl, hb.trans (hb2.mono hb.size), hz.step hb2⟩
                rintro fp a W ⟨rfl, hb, hz⟩
                obtain ⟨A2, hA2⟩ : ∃ A2, A2 = A.put (some 109) (.agg #[.int .i64 mx, .slice oa n cap, .int .i64 cp]) := ⟨_, rfl⟩
                rw [← hA2]
                rw [hA] at hA2
                simp only [Act.put, List.setIfInBounds_toArray, List.set_cons_zero, List.set_cons_succ] at hA2
                clear hA
                have q4 : A2 = A2 ∧ BytesN W a0 p0 ∧ Below wd.heap.size wd W ∧ ZV wd.heap.size (.cells #[.int .i64 0, .slice none 0 0, .int .i64 0] 45) fp W := ⟨rfl, HP0.out _ hb, hb, hz⟩
                clear hb hz
                revert q4
                refine f1_step (p := 10) (c := 4) (dp := 16) (J := (fun fp a W => a = A2 ∧ BytesN W a0 p0 ∧ Below wd.heap.size wd W ∧ ZV wd.heap.size (.cells #[.int .i64 0, .slice none 0 0, .int .i64 0] 45) fp W)) (J' := (fun fp a W => ∃ o1 n1 c1 f1 m1 d1, a = A2.put (some 112) (.tuple #[.agg #[.int .i64 y1, .slice o1 n1 c1, .int .i64 cp], .slice f1 m1 d1, .bool y4, .int .i64 y5]) ∧ (y2.length = n1 ∧ n1 ≤ c1 ∧ y3.length = m1 ∧ m1 ≤ d1) ∧ (FieldsN W o1 y2 ∧ FieldsN W f1 y3) ∧ Below wd.heap.size wd W ∧ ZV wd.heap.size (.cells #[.int .i64 0, .slice none 0 0, .int .i64 0] 45) fp W)) (L := (fun b => #[true, true, true, true, false, false, false, false, false, false, b, false, false, false, false])) (L' := (fun b => #[true, true, true, true, true, false, false, false, false, false, b, false, false, false, false]))
                  rfl (by intro b; cases b <;> rfl) (by kernel_rfl) (by kernel_rfl) rfl (by kernel_rfl) (by simp) (by simp) (fun d v c a w h => h) ?_ ?_ (fun _ _ _ ⟨_, _, h, _⟩ => h) (fun _ _ _ ⟨_, _, _, _, _, _, _, _, _, h, _⟩ => h) 9 ?_ fp A2 W
                · rintro a W ⟨rfl, hy, hb, hz⟩
                  refine Makes.wpOp (z := (.cells #[.int .i64 0, .slice none 0 0, .int .i64 0] 45)) (makes_hst rfl rfl rfl rfl) ⟨_, rfl, rfl, hy.below (below_new _), hb.trans ((below_new _).mono hb.size), ZV.made _ hb.size⟩
                · rintro fp a W ⟨rfl, hy, hb, hz⟩
                  refine wpOp_call (HBY.out W hb a0 cap0 HPC0.out hy) rfl rfl rfl (exec_call rfl (by rw [hA2]; rfl) W (by go_simp)) ?_
                  rintro e W' ⟨o1, n1, c1, f1, m1, d1, rfl, h1, h2, h3, h4, h5, h6, hb2⟩
                  exact ⟨_, rfl, o1, n1, c1, f1, m1, d1, rfl, ⟨h1, h2, h4, h5⟩, ⟨h3, h6⟩, hb.trans (hb2.mono hb.size), hz.step hb2⟩
                rintro fp a W ⟨o1, n1, c1, f1, m1, d1, rfl, hl, hf, hb, hz⟩
                have HLN := Lib.hid hl
                have q3 : (FieldsN W o1 y2 ∧ FieldsN W f1 y3) ∧ Below wd.heap.size wd W ∧ ZV wd.heap.size (.cells #[.int .i64 0, .slice none 0 0, .int .i64 0] 45) fp W := ⟨hf, hb, hz⟩
                clear hl hf hb hz
                revert q3
                revert W
                revert fp
                refine f1_take (c := 5) (dp := 16) (d := 107) (v := (.tuple #[.agg #[.int .i64 y1, .slice o1 n1 c1, .int .i64 cp], .slice f1 m1 d1, .bool y4, .int .i64 y5])) (J := (fun fp W => (FieldsN W o1 y2 ∧ FieldsN W f1 y3) ∧ Below wd.heap.size wd W ∧ ZV wd.heap.size (.cells #[.int .i64 0, .slice none 0 0, .int .i64 0] 45) fp W)) (L := (fun b => #[true, true, true, true, true, false, false, false, false, false, b, false, false, false, false])) (L' := (fun b => #[true, true, true, true, true, true, false, false, false, false, b, false, false, false, false]))
                  (by intro b; cases b <;> rfl) (by intro b; cases b <;> kernel_rfl) (by intro b; cases b <;> kernel_rfl) rfl rfl rfl (by kernel_rfl) (by decide) (by kernel_rfl) (fun c a w h => h) (by intro W _; exact exec_move rfl (by rw [hA2]; rfl) W) (fun _ _ h => h.2.1) 8 ?_
                refine f1_take (c := 6) (dp := 16) (d := 113) (v := (.agg #[.int .i64 y1, .slice o1 n1 c1, .int .i64 cp])) (J := (fun fp W => (FieldsN W o1 y2 ∧ FieldsN W f1 y3) ∧ Below wd.heap.size wd W ∧ ZV wd.heap.size (.cells #[.int .i64 0, .slice none 0 0, .int .i64 0] 45) fp W)) (L := (fun b => #[true, true, true, true, true, true, false, false, false, false, b, false, false, false, false])) (L' := (fun b => #[true, true, true, true, true, true, true, false, false, false, b, false, false, false, false]))
                  (by intro b; cases b <;> rfl) (by intro b; cases b <;> kernel_rfl) (by intro b; cases b <;> kernel_rfl) rfl rfl rfl (by kernel_rfl) (by decide) (by kernel_rfl) (fun c a w h => h) (by intro W _; exact exec_extract rfl (by rw [hA2]; rfl) rfl W) (fun _ _ h => h.2.1) 7 ?_
                refine f1_take (c := 7) (dp := 16) (d := 114) (v := (.slice f1 m1 d1)) (J := (fun fp W => (FieldsN W o1 y2 ∧ FieldsN W f1 y3) ∧ Below wd.heap.size wd W ∧ ZV wd.heap.size (.cells #[.int .i64 0, .slice none 0 0, .int .i64 0] 45) fp W)) (L := (fun b => #[true, true, true, true, true, true, true, false, false, false, b, false, false, false, false])) (L' := (fun b => #[true, true, true, true, true, true, true, true, false, false, b, false, false, false, false]))
                  (by intro b; cases b <;> rfl) (by intro b; cases b <;> kernel_rfl) (by intro b; cases b <;> kernel_rfl) rfl rfl rfl (by kernel_rfl) (by decide) (by kernel_rfl) (fun c a w h => h) (by intro W _; exact exec_extract rfl (by rw [hA2]; rfl) rfl W) (fun _ _ h => h.2.1) 6 ?_
                refine f1_take (c := 8) (dp := 16) (d := 115) (v := (.bool y4)) (J := (fun fp W => (FieldsN W o1 y2 ∧ FieldsN W f1 y3) ∧ Below wd.heap.size wd W ∧ ZV wd.heap.size (.cells #[.int .i64 0, .slice none 0 0, .int .i64 0] 45) fp W)) (L := (fun b => #[true, true, true, true, true, true, true, true, false, false, b, false, false, false, false])) (L' := (fun b => #[true, true, true, true, true, true, true, true, true, false, b, false, false, false, false]))
                  (by intro b; cases b <;> rfl) (by intro b; cases b <;> kernel_rfl) (by intro b; cases b <;> kernel_rfl) rfl rfl rfl (by kernel_rfl) (by decide) (by kernel_rfl) (fun c a w h => h) (by intro W _; exact exec_extract rfl (by rw [hA2]; rfl) rfl W) (fun _ _ h => h.2.1) 5 ?_
                refine f1_take (c := 9) (dp := 16) (d := 116) (v := (.int .i64 y5)) (J := (fun fp W => (FieldsN W o1 y2 ∧ FieldsN W f1 y3) ∧ Below wd.heap.size wd W ∧ ZV wd.heap.size (.cells #[.int .i64 0, .slice none 0 0, .int .i64 0] 45) fp W)) (L := (fun b => #[true, true, true, true, true, true, true, true, true, false, b, false, false, false, false])) (L' := (fun b => #[true, true, true, true, true, true, true, true, true, true, b, false, false, false, false]))
                  (by intro b; cases b <;> rfl) (by intro b; cases b <;> kernel_rfl) (by intro b; cases b <;> kernel_rfl) rfl rfl rfl (by kernel_rfl) (by decide) (by kernel_rfl) (fun c a w h => h) (by intro W _; exact exec_extract rfl (by rw [hA2]; rfl) rfl W) (fun _ _ h => h.2.1) 4 ?_
                refine f1_last (p := 10) (dp := 16) (J := (fun fp W => (FieldsN W o1 y2 ∧ FieldsN W f1 y3) ∧ Below wd.heap.size wd W ∧ ZV wd.heap.size (.cells #[.int .i64 0, .slice none 0 0, .int .i64 0] 45) fp W)) (L := (fun b => #[true, true, true, true, true, true, true, true, true, true, b, false, false, false, false])) rfl (by kernel_rfl) ?_ (fun _ _ h => h.2.1) 4 ?_
                · rintro W ⟨⟨h1, h2⟩, hb, hz⟩
                  refine Makes.wpOp (z := (.cells #[.int .i64 0, .slice none 0 0, .int .i64 0] 45)) (makes_hst rfl rfl rfl rfl) ⟨_, rfl, ⟨h1.below (below_new _), h2.below (below_new _)⟩, hb.trans ((below_new _).mono hb.size), ZV.made _ hb.size⟩
                rintro gv W ⟨⟨h1, h2⟩, hb, hz⟩
                obtain ⟨g12, rfl, hg, hrow⟩ := hz _ rfl
                have HROW := Lib.hid hrow
                have HG := Lib.hid hg
                have HF := Lib.hid (And.intro h1 h2)
                have HB := Lib.hid hb
                clear hz hrow h1 h2 hb
                simp only [hA2, Act.put, List.setIfInBounds_toArray, List.set_cons_zero, List.set_cons_succ]
                clear hA2
                have HS1 := Lib.hid (sep_state HF.out.1 HROW.out (by intro s h; cases h) (by intro s h; cases h) (by intro s h; cases h))
                have HS2 := Lib.hid (sep_state HF.out.2 HROW.out (by intro s h; cases h) (by intro s h; cases h) (by intro s h; cases h))
                refine wpAnyH_store (i := 11) (by kernel_rfl) rfl rfl rfl _ _ _ rfl g12 #[.int .i64 y1, .slice o1 n1 c1, .int .i64 cp] rfl rfl 45 _ HROW.out (by kernel_rfl) rfl (by kernel_rfl) (below_row HB.out HG.out _) (fun hHeld => ?_)
                refine wpAnyH_takeD (i := 12) (v := ?_) (some 17) rfl rfl rfl (by kernel_rfl) (by kernel_rfl) (by kernel_rfl) (fun _ _ _ h => h) ?_ (by assumption) ?_
                rotate_left
                · intro W hW
                  go_simp
                  with_reducible rfl
                try simp only [Act.put, List.setIfInBounds_toArray, List.set_cons_zero, List.set_cons_succ]
                refine wpAnyH_takeD (i := 13) (v := ?_) (some 18) rfl rfl rfl (by kernel_rfl) (by kernel_rfl) (by kernel_rfl) (fun _ _ _ h => h) ?_ (by assumption) ?_
                rotate_left
                · intro W hW
                  go_simp
                  with_reducible rfl
                try simp only [Act.put, List.setIfInBounds_toArray, List.set_cons_zero, List.set_cons_succ]
                refine wpAnyH_takeD (i := 14) (v := ?_) (some 19) rfl rfl rfl (by kernel_rfl) (by kernel_rfl) (by kernel_rfl) (fun _ _ _ h => h) ?_ (by assumption) ?_
                rotate_left
                · intro W hW
                  go_simp
                  with_reducible rfl
                try simp only [Act.put, List.setIfInBounds_toArray, List.set_cons_zero, List.set_cons_succ]
                refine wpAnyH_done (by kernel_rfl) ?_ _
                have HVV := Lib.hid hHeld
                clear hHeld hg
                go_wp2_with fail
                go_meet
                exact ⟨g12, o1, n1, c1, f1, m1, d1, rfl, rfl, rfl, rfl, setRow_heap _ _ _ _ _ _ HROW.out, HLN.out, HF.out.1.setRow HS1.out _, HF.out.2.setRow HS2.out _, HVV.out⟩
              case rest =>
                obtain ⟨g16, oy, ny, cy, fy, my, dy, rfl, rfl, rfl, rfl, h16, hly, hfy, hgy, hbe⟩ := hcut
                obtain ⟨we, hwe⟩ : ∃ we, we = wc := ⟨_, rfl⟩
                subst hwe
                have H16 := Lib.hid h16
                have HLY := Lib.hid hly
                have HFY := Lib.hid (And.intro hfy hgy)
                replace H12 := Lib.hid (H12.out.step hbe)
                replace HFX := Lib.hid (And.intro (HFX.out.1.below hbe) (HFX.out.2.below hbe))
                replace HR := Lib.hid (HR.out.step hbe)
                replace HGX := Lib.hid (show ∀ W, Below we.heap.size we W → Gs w mx cp (.slice oa n cap) W from fun W hW => HGX.out W (hbe.trans (hW.mono hbe.size)))
                replace HP1 := Lib.hid (show ∀ W, Below we.heap.size we W → BytesN W a1 p1 from fun W hW => HP1.out W (hbe.trans (hW.mono hbe.size)))
                clear h16 hly hfy hgy hbe HBY HP0
                have HBZ := Lib.hid (show ∀ W, FieldsN W oy y2 → BytesN W a1 p1 → Calls Try.prog 27 #[.agg #[.int .i64 y1, .slice oy ny cy, .int .i64 cp], .slice a1 p1.length cap1] W (BlkPost y1 cp y2 p1 W) from fun W h1 h2 => by
                  have hck := chk_light (hchk_zero.1 HYK.out).1
                  exact hblock_any y1 cp oy ny cy y2 HLY.out.1 HLY.out.2.1 hck.2 (by have := HLY.out.1; have := hck.1; omega) a1 _ cap1 p1 rfl HPC1.out (by have := HPL.out; omega) W h1 h2 (HB256.out _ HC1.out))
                have HTZ := Lib.hid (told_few (mx := y1) (cp := cp) (L := y2) (bs := p1))
                unfold BlkPost at HBZ
                rw [HZ.out] at HBZ HTZ
                clear HZ
                obtain ⟨z1, z2, z3, z4, z5⟩ := Z
                dsimp only at HBZ HLAW HTZ
                have e0 := H16.out.c0
                have e1 := H16.out.c1
                have e2 := H16.out.c2
                have r1 := HR.out.c1
                go_upto_region 19 with (first | (go_at_call 27; refine (HBZ.out _ HFY.out.1 (HP1.out _ (Below.refl _ _))).mono ?_; rintro e w7 ⟨o3, n3, c3, f3, m3, d3, rfl, h1, h2, h3, h4, h5, h6, hb⟩; have HV3 := Lib.hid (And.intro h1 (And.intro h4 (And.intro h3 (And.intro h6 hb)))); clear h1 h2 h3 h4 h5 h6 hb))
                clear e0 e1 e2 r1
                have HB8 := Lib.hid (show Below we.heap.size we (w7.alloc (.cells #[.int .i64 z1, .slice o3 n3 c3, .int .i64 cp] 45)) from bs_hd HV3.out.2.2.2.2 (below_new _))
                have HN8 := Lib.hid (below_new (W := w7) (.cells #[.int .i64 z1, .slice o3 n3 c3, .int .i64 cp] 45))
                have H20 := Lib.hid (HRow.new w7 z1 cp (.slice o3 n3 c3))
                have HF3 := Lib.hid (And.intro (HV3.out.2.2.1.below HN8.out) (HV3.out.2.2.2.1.below HN8.out))
                replace H12 := Lib.hid (H12.out.step HB8.out)
                replace HFX := Lib.hid (And.intro (HFX.out.1.below HB8.out) (HFX.out.2.below HB8.out))
                replace HFY := Lib.hid (HFY.out.2.below HB8.out)
                have HL3 := Lib.hid (And.intro HV3.out.1 HV3.out.2.1)
                clear HN8 HV3 HR HP1 HBZ H16
                generalize w7.alloc (.cells #[.int .i64 z1, .slice o3 n3 c3, .int .i64 cp] 45) = w8 at *
                generalize w7.heap.size = g20 at *
                by_cases hx5 : x5 = 0
                · subst hx5
                  obtain ⟨rfl, rfl, rfl, rfl, hck, hyes, hno⟩ := HLAW.out.2 rfl
                  have HYES := Lib.hid hyes
                  have HNO := Lib.hid hno
                  have hcl := chk_light (hchk_zero.1 hck).1
                  have HSS := Lib.hid (sameL_self2 x2)
                  have HSA := Lib.hid (show ∀ W, FieldsN W ox x2 → FieldsN W o3 x2 → Calls Try.prog 23 #[.agg #[.int .i64 x1, .slice ox nx cx, .int .i64 cp], .agg #[.int .i64 x1, .slice o3 n3 c3, .int .i64 cp]] W fun e w' => e = .returned (.bool true) ∧ Below W.heap.size W w' from fun W h1 h2 => (hsame_any x1 x1 cp cp ox o3 nx n3 cx c3 x2 x2 HLX.out.1 HL3.out.1 (by have := HLX.out.1; have := hcl.1; omega) (by have := HL3.out.1; have := hcl.1; omega) W h1 h2).mono (by rintro e w' ⟨rfl, hb⟩; exact ⟨by simp [HSS.out], hb⟩))
                  have HCX := Lib.hid (show ∀ W, FieldsN W ox x2 → Calls Try.prog 21 #[.agg #[.int .i64 x1, .slice ox nx cx, .int .i64 cp]] W fun e w' => e = .returned (.int .i64 0) ∧ Below W.heap.size W w' from fun W h1 => (hcheck_any x1 cp ox nx cx x2 HLX.out.1 hcl.2 (by have := HLX.out.1; have := hcl.1; omega) W h1).mono (by rintro e w' ⟨rfl, hb⟩; exact ⟨by rw [hck], hb⟩))
                  have HE := Lib.hid (And.intro HFX.out.1 HF3.out.1)
                  have HI := Lib.hid (And.intro HFY.out HF3.out.2)
                  have HBE := Lib.hid HB8.out
                  clear hck hyes hno hcl HLAW HFX HF3 HFY HB8
                  have s0 := H12.out.c0
                  have s1 := H12.out.c1
                  have s2 := H12.out.c2
                  have t0 := H20.out.c0
                  have t1 := H20.out.c1
                  have t2 := H20.out.c2
                  go_upto_region 23 with (first | (go_at_call 23; refine (HSA.out _ HE.out.1 HE.out.2).mono ?_; rintro e w9 ⟨rfl, hb⟩; replace HE := Lib.hid (And.intro (HE.out.1.below hb) (HE.out.2.below hb)); replace HI := Lib.hid (And.intro (HI.out.1.below hb) (HI.out.2.below hb)); replace H12 := Lib.hid (H12.out.step hb); replace HBE := Lib.hid (HBE.out.trans (hb.mono HBE.out.size)); have s0 := H12.out.c0; have s1 := H12.out.c1; have s2 := H12.out.c2; clear hb) | (go_at_call 21; refine (HCX.out _ HE.out.1).mono ?_; rintro e w9 ⟨rfl, hb⟩; replace HI := Lib.hid (And.intro (HI.out.1.below hb) (HI.out.2.below hb)); replace HBE := Lib.hid (HBE.out.trans (hb.mono HBE.out.size)); clear hb))
                  clear s0 s1 s2 t0 t1 t2
                  by_cases hall : y4 = true ∧ z4 = true ∧ sumF y3 + sumF z3 ≤ 1024
                  · obtain ⟨rfl, hxl⟩ := HYES.out hall
                    obtain ⟨rfl, rfl, hsum⟩ := hall
                    have hy := few_light (HTY.out rfl)
                    have hz := few_light (HTZ.out rfl)
                    have HSY := Lib.hid (show ∀ W, FieldsN W fy y3 → Calls Try.prog 24 #[.slice fy my dy] W fun e w' => e = .returned (.int .i64 (sumF y3 : Nat)) ∧ Below W.heap.size W w' from fun W h => hsize_any fy my dy y3 HLY.out.2.2.1 hy.2 (by have := HLY.out.2.2.1; have := hy.1; omega) W h)
                    have HSZ := Lib.hid (show ∀ W, FieldsN W f3 z3 → Calls Try.prog 24 #[.slice f3 m3 d3] W fun e w' => e = .returned (.int .i64 (sumF z3 : Nat)) ∧ Below W.heap.size W w' from fun W h => hsize_any f3 m3 d3 z3 HL3.out.2 hz.2 (by have := HL3.out.2; have := hz.1; omega) W h)
                    have hle : my ≤ 32 ∧ m3 ≤ 32 ∧ mlx = my + m3 := by have := HLX.out.2.2.1; have := HLY.out.2.2.1; have := HL3.out.2; have := hy.1; have := hz.1; omega
                    generalize sumF y3 = sy at hsum HSY
                    generalize sumF z3 = sz at hsum HSZ
                    have hw1 : IntKind.i64.wrap ((sy : Int) + (sz : Int)) = (sy : Int) + (sz : Int) := IntWalk.i64_in _ (by omega)
                    have q7 : decide ((sy : Int) + (sz : Int) ≤ 1024) = true := decide_eq_true (by omega)
                    have q8 : ¬ (1024 < (sy : Int) + (sz : Int)) := by omega
                    have hw2 : IntKind.i64.wrap ((my : Int) + (m3 : Int)) = (mlx : Int) := by rw [IntWalk.i64_in _ (by omega)]; omega
                    clear hxl hsum hy hz hle HYES HNO HTY HTZ
                    go_wp2_with (first | (go_at_call 24; with_reducible refine (HSY.out _ HI.out.1).mono ?_; rintro e w9 ⟨rfl, hb⟩; replace HI := Lib.hid (And.intro (HI.out.1.below hb) (HI.out.2.below hb)); replace HBE := Lib.hid (HBE.out.trans (hb.mono HBE.out.size)); clear hb) | (go_at_call 24; with_reducible refine (HSZ.out _ HI.out.2).mono ?_; rintro e w9 ⟨rfl, hb⟩; replace HBE := Lib.hid (HBE.out.trans (hb.mono HBE.out.size)); clear hb) | (go_at_call 13; refine (HAW.out _).mono ?_; rintro e w9 ⟨rfl, hb⟩; have HB9 := Lib.hid hb; clear hb))
                    go_ret
                    exact ⟨rfl, ((HGX.out _ (HBE.out.trans (HB9.out.mono HBE.out.size))).below)⟩
                  · obtain ⟨rfl, rfl⟩ := HNO.out hall
                    have hm0 : mlx = 0 := by have := HLX.out.2.2.1; simpa using this.symm
                    subst hm0
                    cases y4 with
                    | false =>
                      clear hall HYES HNO HTY HTZ
                      go_wp2_with (first | (go_at_call 13; refine (HAW.out _).mono ?_; rintro e w9 ⟨rfl, hb⟩; have HB9 := Lib.hid hb; clear hb))
                      go_ret
                      exact ⟨rfl, ((HGX.out _ (HBE.out.trans (HB9.out.mono HBE.out.size))).below)⟩
                    | true =>
                      cases z4 with
                      | false =>
                        clear hall HYES HNO HTY HTZ
                        go_wp2_with (first | (go_at_call 13; refine (HAW.out _).mono ?_; rintro e w9 ⟨rfl, hb⟩; have HB9 := Lib.hid hb; clear hb))
                        go_ret
                        exact ⟨rfl, ((HGX.out _ (HBE.out.trans (HB9.out.mono HBE.out.size))).below)⟩
                      | true =>
                        have hsum : ¬ sumF y3 + sumF z3 ≤ 1024 := fun h => hall ⟨rfl, rfl, h⟩
                        have hsy := HTY.out rfl
                        have hsz := HTZ.out rfl
                        have hy := few_light hsy
                        have hz := few_light hsz
                        have HSY := Lib.hid (show ∀ W, FieldsN W fy y3 → Calls Try.prog 24 #[.slice fy my dy] W fun e w' => e = .returned (.int .i64 (sumF y3 : Nat)) ∧ Below W.heap.size W w' from fun W h => hsize_any fy my dy y3 HLY.out.2.2.1 hy.2 (by have := HLY.out.2.2.1; have := hy.1; omega) W h)
                        have HSZ := Lib.hid (show ∀ W, FieldsN W f3 z3 → Calls Try.prog 24 #[.slice f3 m3 d3] W fun e w' => e = .returned (.int .i64 (sumF z3 : Nat)) ∧ Below W.heap.size W w' from fun W h => hsize_any f3 m3 d3 z3 HL3.out.2 hz.2 (by have := HL3.out.2; have := hz.1; omega) W h)
                        generalize sumF y3 = sy at hsum HSY hsy
                        generalize sumF z3 = sz at hsum HSZ hsz
                        have hw1 : IntKind.i64.wrap ((sy : Int) + (sz : Int)) = (sy : Int) + (sz : Int) := IntWalk.i64_in _ (by omega)
                        have q7 : decide ((sy : Int) + (sz : Int) ≤ 1024) = false := decide_eq_false (by omega)
                        have q8 : 1024 < (sy : Int) + (sz : Int) := by omega
                        clear hsum hy hz hsy hsz hall HYES HNO HTY HTZ
                        go_wp2_with (first | (go_at_call 24; with_reducible refine (HSY.out _ HI.out.1).mono ?_; rintro e w9 ⟨rfl, hb⟩; replace HI := Lib.hid (And.intro (HI.out.1.below hb) (HI.out.2.below hb)); replace HBE := Lib.hid (HBE.out.trans (hb.mono HBE.out.size)); clear hb) | (go_at_call 24; with_reducible refine (HSZ.out _ HI.out.2).mono ?_; rintro e w9 ⟨rfl, hb⟩; replace HBE := Lib.hid (HBE.out.trans (hb.mono HBE.out.size)); clear hb) | (go_at_call 13; refine (HAW.out _).mono ?_; rintro e w9 ⟨rfl, hb⟩; have HB9 := Lib.hid hb; clear hb))
                        go_ret
                        exact ⟨rfl, ((HGX.out _ (HBE.out.trans (HB9.out.mono HBE.out.size))).below)⟩
                · have q6 : (x5 != 0) = true := by simp; exact hx5
                  obtain ⟨⟨rfl, rfl⟩, hor⟩ := HLAW.out.1 hx5
                  have HSB := Lib.hid (show ∀ W, FieldsN W ox x2 → FieldsN W oa x2 → Calls Try.prog 23 #[.agg #[.int .i64 x1, .slice ox nx cx, .int .i64 cp], .agg #[.int .i64 x1, .slice oa n cap, .int .i64 cp]] W fun e w' => e = .returned (.bool true) ∧ Below W.heap.size W w' from fun W h1 h2 => (hsame_any x1 x1 cp cp ox oa nx n cx cap x2 x2 HLX.out.1 HN.out.1 (by have := HLX.out.1; have := HN.out.1; have := HN.out.2.2.2; omega) HN.out.2.2.2 W h1 h2).mono (by rintro e w' ⟨rfl, hb⟩; exact ⟨by simp [sameL_self2], hb⟩))
                  have HC := Lib.hid (show Vy w x1 cp oa n cap x2 g12 ox nx cx w8 from ⟨HGX.out _ HB8.out, H12.out, HFW.out _ (HGX.out _ HB8.out).below, HFX.out.1⟩)
                  clear hx5 HLAW HFX HF3 HFY H20 H12 HTY HTZ
                  go_upto_region 20 with fail
                  by_cases hy5 : y5 = 0
                  · have hz5 : z5 ≠ 0 := by rcases hor with h | h; exact absurd hy5 h; exact h
                    subst hy5
                    have q7 : (z5 != 0) = true := by simp; exact hz5
                    clear hor hz5
                    refine class_region (C := Vy w x1 cp oa n cap x2 g12 ox nx cx) (by kernel_rfl) (by kernel_rfl) HC.out.drew ?_
                    clear HC
                    repeat
                      first
                        | (first
                             | (with_reducible refine q_plainE rfl rfl ?_)
                             | (with_reducible refine q_yesE 128 rfl (by kernel_rfl) (by with_unfolding_all rfl) rfl ?_)
                           apply Exists.intro
                           with_reducible refine ⟨?_, ?_⟩
                           · intro W hW
                             unfold QAt
                             first
                               | (go_simp; done)
                               | (go_simp; with_reducible rfl)
                               | (have a0 := hW.s.st.c0
                                  have a1 := hW.s.st.c1
                                  have a2 := hW.s.st.c2
                                  have b0 := hW.r.c0
                                  have b1 := hW.r.c1
                                  have b2 := hW.r.c2
                                  first | (go_simp; done) | go_simp
                                  first
                                    | done
                                    | (with_reducible rfl)
                                    | (go_at_call 15; refine (HOW.out _).mono ?_; rintro e w11 ⟨rfl, hb⟩; exact ⟨rfl, hW.step hb⟩)
                                    | (go_at_call 23; with_reducible refine (HSB.out _ hW.fx hW.fl).mono ?_; rintro e w11 ⟨rfl, hb⟩; exact ⟨rfl, hW.step hb⟩)
                                    | (go_at_call 13; with_reducible refine (HAW.out _).mono ?_; rintro e w11 ⟨rfl, hb⟩; exact ⟨rfl, hW.step hb⟩)))
                        | (with_reducible refine q_noE 128 rfl (by kernel_rfl) (by with_unfolding_all rfl) rfl rfl ?_)
                      apply Exists.intro
                      with_reducible refine ⟨?_, ?_⟩
                      · simp only [Act.put, List.setIfInBounds_toArray, List.set_cons_zero, List.set_cons_succ]
                        exact isAct_rfl _
                    with_reducible refine qrest_nil ?_
                    intro w' hw'
                    go_wp2_with fail
                    go_ret
                    exact ⟨rfl, hw'.s.below⟩
                  · have q7 : (y5 != 0) = true := by simp; exact hy5
                    clear hor hy5
                    refine class_region (C := Vy w x1 cp oa n cap x2 g12 ox nx cx) (by kernel_rfl) (by kernel_rfl) HC.out.drew ?_
                    clear HC
                    repeat
                      first
                        | (first
                             | (with_reducible refine q_plainE rfl rfl ?_)
                             | (with_reducible refine q_yesE 128 rfl (by kernel_rfl) (by with_unfolding_all rfl) rfl ?_)
                           apply Exists.intro
                           with_reducible refine ⟨?_, ?_⟩
                           · intro W hW
                             unfold QAt
                             first
                               | (go_simp; done)
                               | (go_simp; with_reducible rfl)
                               | (have a0 := hW.s.st.c0
                                  have a1 := hW.s.st.c1
                                  have a2 := hW.s.st.c2
                                  have b0 := hW.r.c0
                                  have b1 := hW.r.c1
                                  have b2 := hW.r.c2
                                  first | (go_simp; done) | go_simp
                                  first
                                    | done
                                    | (with_reducible rfl)
                                    | (go_at_call 15; refine (HOW.out _).mono ?_; rintro e w11 ⟨rfl, hb⟩; exact ⟨rfl, hW.step hb⟩)
                                    | (go_at_call 23; with_reducible refine (HSB.out _ hW.fx hW.fl).mono ?_; rintro e w11 ⟨rfl, hb⟩; exact ⟨rfl, hW.step hb⟩)
                                    | (go_at_call 13; with_reducible refine (HAW.out _).mono ?_; rintro e w11 ⟨rfl, hb⟩; exact ⟨rfl, hW.step hb⟩)))
                        | (with_reducible refine q_noE 128 rfl (by kernel_rfl) (by with_unfolding_all rfl) rfl rfl ?_)
                      apply Exists.intro
                      with_reducible refine ⟨?_, ?_⟩
                      · simp only [Act.put, List.setIfInBounds_toArray, List.set_cons_zero, List.set_cons_succ]
                        exact isAct_rfl _
                    with_reducible refine qrest_nil ?_
                    intro w' hw'
                    go_wp2_with fail
                    go_ret
                    exact ⟨rfl, hw'.s.below⟩
      · have q6 : (hchk mx cp L != 0) = true := by simp; exact h0
        generalize hchk mx cp L = hc at HCK q6
        clear hn hl hlen hn30 hf hit hkd hm h0 hli hnc
        go_enter Try.func5, Try.ntmps5
        go_upto_region 1 with fail
        generalize (w.alloc (.cells #[.int .i64 mx, .slice oa n cap, .int .i64 cp] 40)) = w1 at HH ⊢
        have c0 := HH.out.st.c0
        have c1 := HH.out.st.c1
        have c2 := HH.out.st.c2
        go_wp2_with (first | (go_at_call 12; refine (HLI.out _ HH.out.below).mono ?_; rintro e w2 ⟨rfl, hb⟩; replace HH := Lib.hid (HH.out.step hb); clear hb; have c0 := HH.out.st.c0; have c1 := HH.out.st.c1; have c2 := HH.out.st.c2) | (go_at_call 15; refine (HOW.out _).mono ?_; rintro e w3 ⟨rfl, hb⟩; replace HH := Lib.hid (HH.out.step hb); clear hb) | (go_at_call 21; refine (HCK.out _ HH.out.below).mono ?_; rintro e w4 ⟨rfl, hb⟩; replace HH := Lib.hid (HH.out.step hb); clear hb) | (go_at_call 13; refine (HAW.out _).mono ?_; rintro e w9 ⟨rfl, hb⟩; have HB9 := Lib.hid hb; clear hb))
        go_ret
        exact ⟨rfl, (HH.out.step HB9.out).below⟩
    · have q1 : decide ((20 : Int) < (m : Int)) = true := decide_eq_true (by omega)
      clear hn hl hlen hn30 hf hit hkd hm hli hnc
      go_enter Try.func5, Try.ntmps5
      go_upto_region 1 with fail
      generalize (w.alloc (.cells #[.int .i64 mx, .slice oa n cap, .int .i64 cp] 40)) = w1 at HH ⊢
      have c0 := HH.out.st.c0
      have c1 := HH.out.st.c1
      have c2 := HH.out.st.c2
      go_wp2_with (first | (go_at_call 12; refine (HLI.out _ HH.out.below).mono ?_; rintro e w2 ⟨rfl, hb⟩; replace HH := Lib.hid (HH.out.step hb); clear hb; have c0 := HH.out.st.c0; have c1 := HH.out.st.c1; have c2 := HH.out.st.c2) | (go_at_call 15; refine (HOW.out _).mono ?_; rintro e w3 ⟨rfl, hb⟩; replace HH := Lib.hid (HH.out.step hb); clear hb) | (go_at_call 21; refine (HCK.out _ HH.out.below).mono ?_; rintro e w4 ⟨rfl, hb⟩; replace HH := Lib.hid (HH.out.step hb); clear hb) | (go_at_call 13; refine (HAW.out _).mono ?_; rintro e w9 ⟨rfl, hb⟩; have HB9 := Lib.hid hb; clear hb))
      go_ret
      exact ⟨rfl, (HH.out.step HB9.out).below⟩
  · rw [show light L = false from by simpa using hli] at HLI
    clear hn hf hit hkd hm hli hnc
    go_enter Try.func5, Try.ntmps5
    go_upto_region 1 with fail
    generalize (w.alloc (.cells #[.int .i64 mx, .slice oa n cap, .int .i64 cp] 40)) = w1 at HH ⊢
    have c0 := HH.out.st.c0
    have c1 := HH.out.st.c1
    have c2 := HH.out.st.c2
    go_wp2_with (first | (go_at_call 12; refine (HLI.out _ HH.out.below).mono ?_; rintro e w2 ⟨rfl, hb⟩; replace HH := Lib.hid (HH.out.step hb); clear hb; have c0 := HH.out.st.c0; have c1 := HH.out.st.c1; have c2 := HH.out.st.c2) | (go_at_call 15; refine (HOW.out _).mono ?_; rintro e w3 ⟨rfl, hb⟩; replace HH := Lib.hid (HH.out.step hb); clear hb) | (go_at_call 13; refine (HAW.out _).mono ?_; rintro e w9 ⟨rfl, hb⟩; have HB9 := Lib.hid hb; clear hb))
    go_ret
    exact ⟨rfl, (HH.out.step HB9.out).below⟩
end Go.Proofs.Yteceinojmdgmeaa

