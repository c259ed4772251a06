/- HencBack: the walk (printed by gen_back.py). -/
import Derived.Test.YteceinojmdgmeaaC52
import Derived.Test.YteceinojmdgmeaaC41
import Derived.Deep.RegionHeld
import Derived.Deep.DeepCutAuto
import Derived.Test.YteceinojmdgmeaaC32
import Derived.Test.YteceinojmdgmeaaC44
namespace Go.Proofs.Yteceinojmdgmeaa
open Go.RowKit
set_option linter.unusedVariables false
set_option linter.unusedSimpArgs false

set_option maxRecDepth 100000 in
set_option maxHeartbeats 8000000 in
theorem hencBack_any (oa : Option Addr) (n cap : Nat) (L : List AskV) (hn : L.length = n) (w : World) (hA : AsksN w oa L) : Calls Try.prog 7 #[.slice oa n cap] w fun e w' => e = .returned (.bool true) ∧ Below w.heap.size w w' := by
  have HAW := Lib.hid (fun W => awake07_any W)
  have HNW := Lib.hid (fun W => enew_any W)
  have HNH := Lib.hid (fun W => hnew_any 4096 W)
  unfold NewPost at HNH
  rw [new_4096.1, new_4096.2] at HNH
  have HAS := Lib.hid (fun W (hW : Below w.heap.size w W) => hA.below hW)
  have HN := Lib.hid hn
  clear hA hn
  by_cases h8 : 8 < n
  · have q1 : decide (8 < (n : Int)) = true := decide_eq_true (by omega)
    go_enter Try.func7, Try.ntmps7
    go_wp2_with (go_at_call 11; refine (HAW.out _).mono ?_; rintro e w9 ⟨rfl, hb⟩; have HB9 := Lib.hid hb; clear hb)
    go_ret
    exact ⟨rfl, HB9.out⟩
  · have q1 : decide (8 < (n : Int)) = false := decide_eq_false (by omega)
    have HN8 := Lib.hid (show n ≤ 8 by omega)
    clear h8
    go_enter Try.func7, Try.ntmps7
    go_upto_region 4 with (go_at_call 8; refine (HNW.out _).mono ?_; rintro e w1 ⟨rfl, hb⟩; have HB1 := Lib.hid hb; clear hb)
    have HG3 := Lib.hid (show w.heap.size ≤ w1.heap.size from HB1.out.size)
    have H3 := Lib.hid (ERow.new w1 4096 4096 4096 (.slice none 0 0))
    replace HB1 := Lib.hid (bs_hd HB1.out (below_new (W := w1) (.cells #[.int .i64 4096, .slice none 0 0, .int .i64 4096, .int .i64 4096] 30)))
    generalize w1.alloc (.cells #[.int .i64 4096, .slice none 0 0, .int .i64 4096, .int .i64 4096] 30) = w2 at H3 HB1 ⊢
    generalize w1.heap.size = q3 at H3 HG3 ⊢
    go_upto_region 5 with (go_at_call 17; refine (HNH.out _).mono ?_; rintro e w3 ⟨rfl, hb⟩; have HB3 := Lib.hid hb; clear hb)
    have HR0 := Lib.hid (show HBk w q3 w3.heap.size 4096 4096 4096 none 0 0 none 0 [] (w3.alloc (.cells #[.int .i64 4096, .slice none 0 0, .int .i64 4096] 45)) from
      ⟨(H3.out.step HB3.out).step (below_new _), HRow.new _ _ _ _, FieldsN.nil _ _, FieldsN.nil _ _, rfl, Nat.le_refl _, Nat.le_refl _, by decide, bs_hd (bs_hd HB1.out HB3.out) (below_new _), HG3.out, Nat.le_trans HB1.out.size HB3.out.size⟩)
    clear H3 HB1 HB3 HG3 HNW HNH
    generalize w3.alloc (.cells #[.int .i64 4096, .slice none 0 0, .int .i64 4096] 45) = w4 at HR0 ⊢
    generalize w3.heap.size = q4 at HR0 ⊢
    go_wp2_with fail
    go_loopw [6] (fun iv wr => ∃ (k : Nat) (mx le la : Int) (oT : Option Addr) (nT cT : Nat) (oU : Option Addr) (cU : Nat) (T : List Fld), iv = .int .i64 k ∧ k ≤ n ∧ HBk w q3 q4 mx le la oT nT cT oU cU T wr) (fun iv _ => n - (intOf iv).toNat)
    case atStart => exact ⟨0, 4096, 4096, 4096, none, 0, 0, none, 0, [], rfl, Nat.zero_le _, HR0.out⟩
    case round =>
      obtain ⟨k, mx, le, la, oT, nT, cT, oU, cU, T, rfl, hk, hrel⟩ := hrel
      have HR := Lib.hid hrel
      clear hrel HR0
      by_cases hlt : k < n
      · have q2 : decide ((k : Int) < (n : Int)) = true := decide_eq_true (by omega)
        have hw8 : IntKind.i64.wrap ((k : Int) + 1) = (k : Int) + 1 := IntWalk.i64_in _ (by have := HN8.out; omega)
        obtain ⟨x, hx⟩ : ∃ x, L[k]? = some x := ⟨L[k]'(by rw [HN.out]; exact hlt), List.getElem?_eq_getElem _⟩
        obtain ⟨⟨b0, o0, hoi, l0, l1⟩, hxn, hxc, hxf⟩ := (HAS.out _ HR.out.below) k x hx
        obtain ⟨al, ao, an, ac, am⟩ := x
        have HX := Lib.hid hx
        have HXN := Lib.hid hxn
        have HXC := Lib.hid hxc
        have HXF := Lib.hid (fun W (hW : Below w.heap.size w W) => ((HAS.out _ hW) k _ hx).2.2.2)
        subst hoi
        dsimp only at l0 l1 HXN HXC HXF
        clear hx hxn hxc hxf
        have HLI := Lib.hid (fun W (hW : Below w.heap.size w W) => light_any ao an ac al HXN.out W (HXF.out W hW))
        go_upto_region 10 with fail
        go_cut [57] (fun v57 wx => v57 = .bool (!decide (an ≤ 8 ∧ light al = true ∧ sumF al ≤ 1024)) ∧ HBk w q3 q4 mx le la oT nT cT oU cU T wx)
        case first =>
          by_cases d1 : 8 < an
          · have p1 : decide (8 < (an : Int)) = true := decide_eq_true (by omega)
            have HE := Lib.hid (show (!decide (an ≤ 8 ∧ light al = true ∧ sumF al ≤ 1024)) = true from by rw [decide_eq_false (fun h => by omega)]; rfl)
            clear d1
            go_wp2_with fail
            go_meet
            exact ⟨congrArg Value.bool HE.out.symm, HR.out⟩
          · have p1 : decide (8 < (an : Int)) = false := decide_eq_false (by omega)
            by_cases d2 : light al = true
            · have HSI := Lib.hid (hsize_any ao an ac al HXN.out (light.all d2) (by omega) wr (HXF.out _ HR.out.below))
              rw [d2] at HLI
              by_cases d3 : sumF al ≤ 1024
              · have p3 : decide (1024 < ((sumF al : Nat) : Int)) = false := decide_eq_false (by omega)
                have HE := Lib.hid (show (!decide (an ≤ 8 ∧ light al = true ∧ sumF al ≤ 1024)) = false from by rw [decide_eq_true ⟨by omega, d2, d3⟩]; rfl)
                clear d1 d2 d3
                generalize sumF al = sz at *
                go_wp2_with (first | (go_at_call 31; refine (HLI.out _ HR.out.below).mono ?_; rintro e w9 ⟨rfl, rfl⟩) | (go_at_call 24; refine (HSI.out).mono ?_; rintro e w9 ⟨rfl, hb⟩; have HB9 := Lib.hid hb; clear hb))
                go_meet
                exact ⟨congrArg Value.bool HE.out.symm, HR.out.step HB9.out⟩
              · have p3 : decide (1024 < ((sumF al : Nat) : Int)) = true := decide_eq_true (by omega)
                have HE := Lib.hid (show (!decide (an ≤ 8 ∧ light al = true ∧ sumF al ≤ 1024)) = true from by rw [decide_eq_false (fun h => d3 h.2.2)]; rfl)
                clear d1 d2 d3
                generalize sumF al = sz at *
                go_wp2_with (first | (go_at_call 31; refine (HLI.out _ HR.out.below).mono ?_; rintro e w9 ⟨rfl, rfl⟩) | (go_at_call 24; refine (HSI.out).mono ?_; rintro e w9 ⟨rfl, hb⟩; have HB9 := Lib.hid hb; clear hb))
                go_meet
                exact ⟨congrArg Value.bool HE.out.symm, HR.out.step HB9.out⟩
            · have d2' : light al = false := by simpa using d2
              rw [d2'] at HLI
              have HE := Lib.hid (show (!decide (an ≤ 8 ∧ light al = true ∧ sumF al ≤ 1024)) = true from by rw [decide_eq_false (fun h => d2 h.2.1)]; rfl)
              clear d1 d2 d2'
              go_wp2_with (first | (go_at_call 31; refine (HLI.out _ HR.out.below).mono ?_; rintro e w9 ⟨rfl, rfl⟩))
              go_meet
              exact ⟨congrArg Value.bool HE.out.symm, HR.out⟩
        case rest =>
          obtain ⟨rfl, hrel⟩ := hcut
          replace HR := Lib.hid hrel
          clear hrel HLI l0 l1
          by_cases hok : an ≤ 8 ∧ light al = true ∧ sumF al ≤ 1024
          · rw [decide_eq_true hok]
            obtain ⟨wb, hwb⟩ : ∃ wb, wb = wc := ⟨_, rfl⟩
            subst hwb
            have HL2 := Lib.hid (light_lt hok.2.1)
            have HL8 := Lib.hid (show al.length ≤ 8 by rw [HXN.out]; exact hok.1)
            have HSZ := Lib.hid hok.2.2
            have HLA := Lib.hid (light.all hok.2.1)
            clear hok
            obtain ⟨⟨b9, o9, ho9, l0, l1⟩, _⟩ := (HAS.out _ HR.out.below) k _ HX.out
            injection ho9 with ho9
            injection ho9 with hb9 ho9 _
            subst hb9
            subst ho9
            dsimp only at l0 l1
            go_upto_if 64 with fail
            go_cut [] (fun wx => ∃ (le2 la2 : Int), HBk w q3 q4 mx le2 la2 oT nT cT oU cU T wx)
            case first =>
              by_cases hm : 0 ≤ am
              · first | rw [show decide ((0 : Int) ≤ am) = true from decide_eq_true hm] | rw [show decide (am ≥ (0 : Int)) = true from decide_eq_true hm]
                obtain ⟨hlE, _⟩ := lim_chk HR.out.chk hm
                have HLM := Lib.hid (fun W (hW : Below wb.heap.size wb W) => elimit_any mx le la oT nT cT T HR.out.len HR.out.light.2 HR.out.light.1 am W ((HR.out.step hW).fT))
                rw [hlE] at HLM
                have HK2 := Lib.hid (fun W (hW : Below wb.heap.size wb W) => (HR.out.step hW).limit hm)
                clear hlE hm
                generalize limLe mx le la am T = le2 at HLM HK2
                generalize limLa mx le la am T = la2 at HLM HK2
                go_upto_region 13 with fail
                clear l0 l1
                go_cut [7, 8] (fun v7 v8 wx => ∃ (g7 : Nat), v7 = .pointer (some ⟨g7, 0, none⟩) ∧ v8 = .int .i64 0 ∧ ERow wx g7 mx (.slice oT nT cT) le2 la2 ∧ Below wb.heap.size wb wx)
                case first =>
                  have HRD := Lib.hid (show Below wb.heap.size wb wb.drew from (Below.refl _ _).drew)
                  refine wp_region_held_drew (S := fun W => Below wb.heap.size wb W) (by kernel_rfl) HRD.out (fun hHeld => ?_)
                  clear HRD
                  refine wpAnyH_takeD (i := 0) (v := ?_) (some 66) rfl rfl rfl (by kernel_rfl) (by kernel_rfl) (by kernel_rfl) (fun _ _ _ h => h) ?_ (by assumption) ?_
                  rotate_left
                  · intro W hW
                    have r0 := (HR.out.step hW).r3.c0
                    have r1 := (HR.out.step hW).r3.c1
                    have r2 := (HR.out.step hW).r3.c2
                    have r3 := (HR.out.step hW).r3.c3
                    go_simp
                    with_reducible rfl
                  try simp only [Act.put, List.setIfInBounds_toArray, List.set_cons_zero, List.set_cons_succ]
                  refine wpAnyH_takeD (i := 1) (v := ?_) (some 67) rfl rfl rfl (by kernel_rfl) (by kernel_rfl) (by kernel_rfl) (fun _ _ _ h => h) ?_ (by assumption) ?_
                  rotate_left
                  · intro W hW
                    go_simp
                    with_reducible rfl
                  try simp only [Act.put, List.setIfInBounds_toArray, List.set_cons_zero, List.set_cons_succ]
                  refine wpAnyH_takeD (i := 2) (v := ?_) (some 68) rfl rfl rfl (by kernel_rfl) (by kernel_rfl) (by kernel_rfl) (fun _ _ _ h => h) ?_ (by assumption) ?_
                  rotate_left
                  · intro W hW
                    go_simp
                    with_reducible rfl
                  try simp only [Act.put, List.setIfInBounds_toArray, List.set_cons_zero, List.set_cons_succ]
                  refine wpAnyH_takeD (i := 3) (v := ?_) (some 69) rfl rfl rfl (by kernel_rfl) (by kernel_rfl) (by kernel_rfl) (fun _ _ _ h => h) ?_ (by assumption) ?_
                  rotate_left
                  · intro W hW
                    obtain ⟨⟨b9, o9, ho9, l0, l1⟩, _⟩ := (HAS.out _ (bs_hd HR.out.below hW)) k _ HX.out
                    injection ho9 with ho9
                    injection ho9 with hb9 ho9 _
                    subst hb9
                    subst ho9
                    dsimp only at l0 l1
                    go_simp
                    with_reducible rfl
                  try simp only [Act.put, List.setIfInBounds_toArray, List.set_cons_zero, List.set_cons_succ]
                  refine wpAnyH_takeD (i := 4) (v := ?_) (some 70) rfl rfl rfl (by kernel_rfl) (by kernel_rfl) (by kernel_rfl) (fun _ _ _ h => h) ?_ (by assumption) ?_
                  rotate_left
                  · intro W hW
                    go_simp
                    with_reducible rfl
                  try simp only [Act.put, List.setIfInBounds_toArray, List.set_cons_zero, List.set_cons_succ]
                  refine wpAnyH_takeD (i := 5) (v := ?_) (some 71) rfl rfl rfl (by kernel_rfl) (by kernel_rfl) (by kernel_rfl) (fun _ _ _ h => h) ?_ (by assumption) ?_
                  rotate_left
                  · intro W hW
                    obtain ⟨⟨b9, o9, ho9, l0, l1⟩, _⟩ := (HAS.out _ (bs_hd HR.out.below hW)) k _ HX.out
                    injection ho9 with ho9
                    injection ho9 with hb9 ho9 _
                    subst hb9
                    subst ho9
                    dsimp only at l0 l1
                    go_simp
                    with_reducible rfl
                  try simp only [Act.put, List.setIfInBounds_toArray, List.set_cons_zero, List.set_cons_succ]
                  refine name_act (fun A hA => ?_)
                  have Q0 : Below wb.heap.size wb wb.drew := hHeld
                  clear hHeld
                  refine (f1_step (p := 10) (c := 6) (dp := 7) (J := (fun fp a W => a = A ∧ True ∧ Below wb.heap.size wb W ∧ ZV wb.heap.size (.cells #[.int .i64 0, .slice none 0 0, .int .i64 0, .int .i64 0] 30) fp W)) (J' := (fun fp a W => a = A.put (some 72) (.tuple #[.agg #[.int .i64 mx, .slice oT nT cT, .int .i64 le2, .int .i64 la2], .int .i64 0]) ∧ True ∧ Below wb.heap.size wb W ∧ ZV wb.heap.size (.cells #[.int .i64 0, .slice none 0 0, .int .i64 0, .int .i64 0] 30) fp W)) (L := (fun b => #[true, true, true, true, true, true, false, false, false, false, b, false, false])) (L' := (fun b => #[true, true, true, true, true, true, true, false, false, false, b, false, false]))
                    rfl (by intro b; cases b <;> rfl) (by kernel_rfl) (by kernel_rfl) rfl (by kernel_rfl) (by simp) (by simp) (fun d v c a w h => h) ?_ ?_ (fun _ _ _ ⟨_, _, h, _⟩ => h) (fun _ _ _ ⟨_, _, h, _⟩ => h) 5 ?_) none A wb.drew ⟨rfl, trivial, Q0, ZV.noth _ _ _⟩
                  · rintro a W ⟨rfl, _, hb, hz⟩
                    refine Makes.wpOp (z := (.cells #[.int .i64 0, .slice none 0 0, .int .i64 0, .int .i64 0] 30)) (makes_est rfl rfl rfl rfl) ⟨_, rfl, rfl, trivial, hb.trans ((below_new _).mono hb.size), ZV.made _ hb.size⟩
                  · rintro fp a W ⟨rfl, _, hb, hz⟩
                    refine wpOp_call (HLM.out W hb) rfl rfl rfl (exec_call rfl (by rw [hA]; rfl) W (by go_simp)) ?_
                    rintro e W' ⟨rfl, hb2⟩
                    exact ⟨_, rfl, rfl, trivial, hb.trans (hb2.mono hb.size), hz.step hb2⟩
                  rintro fp a W ⟨rfl, hf, hb, hz⟩
                  have q3 : True ∧ Below wb.heap.size wb W ∧ ZV wb.heap.size (.cells #[.int .i64 0, .slice none 0 0, .int .i64 0, .int .i64 0] 30) fp W := ⟨hf, hb, hz⟩
                  clear hf hb hz
                  revert q3
                  revert W
                  revert fp
                  refine f1_take (c := 7) (dp := 7) (d := 65) (v := (.tuple #[.agg #[.int .i64 mx, .slice oT nT cT, .int .i64 le2, .int .i64 la2], .int .i64 0])) (J := (fun fp W => (True) ∧ Below wb.heap.size wb W ∧ ZV wb.heap.size (.cells #[.int .i64 0, .slice none 0 0, .int .i64 0, .int .i64 0] 30) fp W)) (L := (fun b => #[true, true, true, true, true, true, true, false, false, false, b, false, false])) (L' := (fun b => #[true, true, true, true, true, true, true, true, false, false, b, false, false]))
                    (by intro b; cases b <;> rfl) (by intro b; cases b <;> kernel_rfl) (by intro b; cases b <;> kernel_rfl) rfl rfl rfl (by kernel_rfl) (by decide) (by kernel_rfl) (fun c a w h => h) (by intro W _; exact exec_move rfl (by rw [hA]; rfl) W) (fun _ _ h => h.2.1) 4 ?_
                  refine f1_take (c := 8) (dp := 7) (d := 73) (v := (.agg #[.int .i64 mx, .slice oT nT cT, .int .i64 le2, .int .i64 la2])) (J := (fun fp W => (True) ∧ Below wb.heap.size wb W ∧ ZV wb.heap.size (.cells #[.int .i64 0, .slice none 0 0, .int .i64 0, .int .i64 0] 30) fp W)) (L := (fun b => #[true, true, true, true, true, true, true, true, false, false, b, false, false])) (L' := (fun b => #[true, true, true, true, true, true, true, true, true, false, b, false, false]))
                    (by intro b; cases b <;> rfl) (by intro b; cases b <;> kernel_rfl) (by intro b; cases b <;> kernel_rfl) rfl rfl rfl (by kernel_rfl) (by decide) (by kernel_rfl) (fun c a w h => h) (by intro W _; exact exec_extract rfl (by rw [hA]; rfl) rfl W) (fun _ _ h => h.2.1) 3 ?_
                  refine f1_take (c := 9) (dp := 7) (d := 74) (v := (.int .i64 0)) (J := (fun fp W => (True) ∧ Below wb.heap.size wb W ∧ ZV wb.heap.size (.cells #[.int .i64 0, .slice none 0 0, .int .i64 0, .int .i64 0] 30) fp W)) (L := (fun b => #[true, true, true, true, true, true, true, true, true, false, b, false, false])) (L' := (fun b => #[true, true, true, true, true, true, true, true, true, true, b, false, false]))
                    (by intro b; cases b <;> rfl) (by intro b; cases b <;> kernel_rfl) (by intro b; cases b <;> kernel_rfl) rfl rfl rfl (by kernel_rfl) (by decide) (by kernel_rfl) (fun c a w h => h) (by intro W _; exact exec_extract rfl (by rw [hA]; rfl) rfl W) (fun _ _ h => h.2.1) 2 ?_
                  refine f1_last (p := 10) (dp := 7) (J := (fun fp W => (True) ∧ Below wb.heap.size wb W ∧ ZV wb.heap.size (.cells #[.int .i64 0, .slice none 0 0, .int .i64 0, .int .i64 0] 30) fp W)) (L := (fun b => #[true, true, true, true, true, true, true, true, true, true, b, false, false])) rfl (by kernel_rfl) ?_ (fun _ _ h => h.2.1) 2 ?_
                  · rintro W ⟨hf, hb, hz⟩
                    refine Makes.wpOp (z := (.cells #[.int .i64 0, .slice none 0 0, .int .i64 0, .int .i64 0] 30)) (makes_est rfl rfl rfl rfl) ⟨_, rfl, trivial, hb.trans ((below_new _).mono hb.size), ZV.made _ hb.size⟩
                  rintro gv W ⟨hf, hb, hz⟩
                  obtain ⟨g, rfl, hg, hrow⟩ := hz _ rfl
                  have HROW := Lib.hid hrow
                  have HG := Lib.hid hg
                  have HF := Lib.hid hf
                  have HB := Lib.hid hb
                  clear hz hrow hf hb
                  simp only [hA, Act.put, List.setIfInBounds_toArray, List.set_cons_zero, List.set_cons_succ]
                  clear hA
                  refine wpAnyH_store (i := 11) (by kernel_rfl) rfl rfl rfl _ _ _ rfl g #[.int .i64 mx, .slice oT nT cT, .int .i64 le2, .int .i64 la2] rfl rfl 30 _ HROW.out (by kernel_rfl) rfl (by kernel_rfl) (below_row HB.out HG.out _) (fun hHeld => ?_)
                  refine wpAnyH_takeD (i := 12) (v := ?_) (some 8) rfl rfl rfl (by kernel_rfl) (by kernel_rfl) (by kernel_rfl) (fun _ _ _ h => h) ?_ (by assumption) ?_
                  rotate_left
                  · intro W hW
                    go_simp
                    with_reducible rfl
                  try simp only [Act.put, List.setIfInBounds_toArray, List.set_cons_zero, List.set_cons_succ]
                  refine wpAnyH_done (by kernel_rfl) ?_ _
                  have HVV := Lib.hid hHeld
                  clear hHeld hg
                  go_wp2_with fail
                  go_meet
                  exact ⟨g, rfl, rfl, setRow_heap _ _ _ _ _ _ HROW.out, HVV.out⟩
                case rest =>
                  obtain ⟨g7, rfl, rfl, h7, hbd⟩ := hcut
                  have H7 := Lib.hid h7
                  have HB7 := Lib.hid hbd
                  clear h7 hbd
                  have e0 := H7.out.c0
                  have e1 := H7.out.c1
                  have e2 := H7.out.c2
                  have e3 := H7.out.c3
                  go_upto_region 16 with fail
                  go_wp2_with (refine (wpList_store_row rfl _ _ _ rfl q3 #[.int .i64 mx, .slice oT nT cT, .int .i64 le2, .int .i64 la2] rfl rfl _ _ (HR.out.step HB7.out).r3 (by kernel_rfl) rfl (by kernel_rfl) ?_))
                  go_meet
                  exact ⟨le2, la2, HK2.out _ HB7.out⟩
              · first | rw [show decide ((0 : Int) ≤ am) = false from decide_eq_false hm] | rw [show decide (am ≥ (0 : Int)) = false from decide_eq_false hm]
                go_wp2_with fail
                go_meet
                exact ⟨le, la, HR.out⟩
            case rest =>
              obtain ⟨le2, la2, hrel⟩ := hcut
              have HR2 := Lib.hid hrel
              clear hrel HR l0 l1
              obtain ⟨wd, hwd⟩ : ∃ wd, wd = wc := ⟨_, rfl⟩
              subst hwd
              have HBL := Lib.hid (fun W (hW : Below wd.heap.size wd W) => eblock_any mx le2 la2 oT nT cT T HR2.out.len HR2.out.capT HR2.out.light.2 HR2.out.light.1 ao an ac al HXN.out HLA.out (by have := HL8.out; have := HXN.out; omega) W ((HR2.out.step hW).fT) (HXF.out W (bs_hd HR2.out.below hW)))
              have HCK := Lib.hid HR2.out.chk
              go_upto_region 17 with fail
              go_cut [9, 10, 11] (fun v9 v10 v11 wx => ∃ (g9 : Nat) (o2 : Option Addr) (n2 c2 : Nat) (T2 : List Fld) (ob : Option Addr) (nb cb : Nat) (bs : List Nat), v9 = .pointer (some ⟨g9, 0, none⟩) ∧ v10 = .slice ob nb cb ∧ v11 = .int .i64 0 ∧ (hBlk mx 4096 T bs = (la2, T2, al, true, 0) ∧ bs.length = nb ∧ nb ≤ cb ∧ nb ≤ 5000 ∧ (∀ i, i < bs.length → bs.getD i 0 < 256) ∧ T2.length = n2 ∧ n2 ≤ c2 ∧ echk la2 la2 la2 T2 = 0) ∧ ERow wx g9 la2 (.slice o2 n2 c2) la2 la2 ∧ BytesN wx ob bs ∧ FieldsN wx o2 T2 ∧ Below wd.heap.size wd wx)
              case first =>
                have HRD := Lib.hid (show Below wd.heap.size wd wd.drew from (Below.refl _ _).drew)
                refine wp_region_held_drew (S := fun W => Below wd.heap.size wd W) (by kernel_rfl) HRD.out (fun hHeld => ?_)
                clear HRD
                refine wpAnyH_takeD (i := 0) (v := ?_) (some 79) rfl rfl rfl (by kernel_rfl) (by kernel_rfl) (by kernel_rfl) (fun _ _ _ h => h) ?_ (by assumption) ?_
                rotate_left
                · intro W hW
                  have r0 := (HR2.out.step hW).r3.c0
                  have r1 := (HR2.out.step hW).r3.c1
                  have r2 := (HR2.out.step hW).r3.c2
                  have r3 := (HR2.out.step hW).r3.c3
                  go_simp
                  with_reducible rfl
                try simp only [Act.put, List.setIfInBounds_toArray, List.set_cons_zero, List.set_cons_succ]
                refine wpAnyH_takeD (i := 1) (v := ?_) (some 80) rfl rfl rfl (by kernel_rfl) (by kernel_rfl) (by kernel_rfl) (fun _ _ _ h => h) ?_ (by assumption) ?_
                rotate_left
                · intro W hW
                  go_simp
                  with_reducible rfl
                try simp only [Act.put, List.setIfInBounds_toArray, List.set_cons_zero, List.set_cons_succ]
                refine wpAnyH_takeD (i := 2) (v := ?_) (some 81) rfl rfl rfl (by kernel_rfl) (by kernel_rfl) (by kernel_rfl) (fun _ _ _ h => h) ?_ (by assumption) ?_
                rotate_left
                · intro W hW
                  go_simp
                  with_reducible rfl
                try simp only [Act.put, List.setIfInBounds_toArray, List.set_cons_zero, List.set_cons_succ]
                refine wpAnyH_takeD (i := 3) (v := ?_) (some 82) rfl rfl rfl (by kernel_rfl) (by kernel_rfl) (by kernel_rfl) (fun _ _ _ h => h) ?_ (by assumption) ?_
                rotate_left
                · intro W hW
                  obtain ⟨⟨b9, o9, ho9, l0, l1⟩, _⟩ := (HAS.out _ (bs_hd HR2.out.below hW)) k _ HX.out
                  injection ho9 with ho9
                  injection ho9 with hb9 ho9 _
                  subst hb9
                  subst ho9
                  dsimp only at l0 l1
                  go_simp
                  with_reducible rfl
                try simp only [Act.put, List.setIfInBounds_toArray, List.set_cons_zero, List.set_cons_succ]
                refine wpAnyH_takeD (i := 4) (v := ?_) (some 83) rfl rfl rfl (by kernel_rfl) (by kernel_rfl) (by kernel_rfl) (fun _ _ _ h => h) ?_ (by assumption) ?_
                rotate_left
                · intro W hW
                  go_simp
                  with_reducible rfl
                try simp only [Act.put, List.setIfInBounds_toArray, List.set_cons_zero, List.set_cons_succ]
                refine wpAnyH_takeD (i := 5) (v := ?_) (some 84) rfl rfl rfl (by kernel_rfl) (by kernel_rfl) (by kernel_rfl) (fun _ _ _ h => h) ?_ (by assumption) ?_
                rotate_left
                · intro W hW
                  obtain ⟨⟨b9, o9, ho9, l0, l1⟩, _⟩ := (HAS.out _ (bs_hd HR2.out.below hW)) k _ HX.out
                  injection ho9 with ho9
                  injection ho9 with hb9 ho9 _
                  subst hb9
                  subst ho9
                  dsimp only at l0 l1
                  go_simp
                  with_reducible rfl
                try simp only [Act.put, List.setIfInBounds_toArray, List.set_cons_zero, List.set_cons_succ]
                refine name_act (fun A hA => ?_)
                have Q0 : Below wd.heap.size wd wd.drew := hHeld
                clear hHeld
                refine (f1_step (p := 11) (c := 6) (dp := 9) (J := (fun fp a W => a = A ∧ True ∧ Below wd.heap.size wd W ∧ ZV wd.heap.size (.cells #[.int .i64 0, .slice none 0 0, .int .i64 0, .int .i64 0] 30) fp W)) (J' := (fun fp a W => ∃ o2 n2 c2 T2 ob nb cb bs, (hBlk mx 4096 T bs = (la2, T2, al, true, 0) ∧ bs.length = nb ∧ nb ≤ cb ∧ nb ≤ 5000 ∧ (∀ i, i < bs.length → bs.getD i 0 < 256) ∧ T2.length = n2 ∧ n2 ≤ c2 ∧ echk la2 la2 la2 T2 = 0) ∧ a = A.put (some 85) (.tuple #[.agg #[.int .i64 la2, .slice o2 n2 c2, .int .i64 la2, .int .i64 la2], .slice ob nb cb, .int .i64 0]) ∧ (BytesN W ob bs ∧ FieldsN W o2 T2) ∧ Below wd.heap.size wd W ∧ ZV wd.heap.size (.cells #[.int .i64 0, .slice none 0 0, .int .i64 0, .int .i64 0] 30) fp W)) (L := (fun b => #[true, true, true, true, true, true, false, false, false, false, false, b, false, false, false])) (L' := (fun b => #[true, true, true, true, true, true, true, false, false, false, false, b, false, false, false]))
                  rfl (by intro b; cases b <;> rfl) (by kernel_rfl) (by kernel_rfl) rfl (by kernel_rfl) (by simp) (by simp) (fun d v c a w h => h) ?_ ?_ (fun _ _ _ ⟨_, _, h, _⟩ => h) (fun _ _ _ ⟨_, _, _, _, _, _, _, _, _, _, _, h, _⟩ => h) 7 ?_) none A wd.drew ⟨rfl, trivial, Q0, ZV.noth _ _ _⟩
                · rintro a W ⟨rfl, _, hb, hz⟩
                  refine Makes.wpOp (z := (.cells #[.int .i64 0, .slice none 0 0, .int .i64 0, .int .i64 0] 30)) (makes_est rfl rfl rfl rfl) ⟨_, rfl, rfl, trivial, hb.trans ((below_new _).mono hb.size), ZV.made _ hb.size⟩
                · rintro fp a W ⟨rfl, _, hb, hz⟩
                  refine wpOp_call (HBL.out W hb) rfl rfl rfl (exec_call rfl (by rw [hA]; rfl) W (by go_simp)) ?_
                  intro e W' he
                  obtain ⟨o2, n2, c2, T2, ob, nb, cb, bs, rfl, h1, h2, h3, h4, h5, h6, h7, h8, h9, h10, hb2⟩ := blk_back HCK.out HL2.out HL8.out HSZ.out he
                  exact ⟨_, rfl, o2, n2, c2, T2, ob, nb, cb, bs, ⟨h1, h3, h4, h5, h6, h8, h9, h10⟩, rfl, ⟨h2, h7⟩, hb.trans (hb2.mono hb.size), hz.step hb2⟩
                rintro fp a W ⟨o2, n2, c2, T2, ob, nb, cb, bs, hp, rfl, hf, hb, hz⟩
                have HP := Lib.hid hp
                have q3 : (BytesN W ob bs ∧ FieldsN W o2 T2) ∧ Below wd.heap.size wd W ∧ ZV wd.heap.size (.cells #[.int .i64 0, .slice none 0 0, .int .i64 0, .int .i64 0] 30) fp W := ⟨hf, hb, hz⟩
                clear hp hf hb hz
                revert q3
                revert W
                revert fp
                refine f1_take (c := 7) (dp := 9) (d := 78) (v := (.tuple #[.agg #[.int .i64 la2, .slice o2 n2 c2, .int .i64 la2, .int .i64 la2], .slice ob nb cb, .int .i64 0])) (J := (fun fp W => ((BytesN W ob bs ∧ FieldsN W o2 T2)) ∧ Below wd.heap.size wd W ∧ ZV wd.heap.size (.cells #[.int .i64 0, .slice none 0 0, .int .i64 0, .int .i64 0] 30) fp W)) (L := (fun b => #[true, true, true, true, true, true, true, false, false, false, false, b, false, false, false])) (L' := (fun b => #[true, true, true, true, true, true, true, true, false, false, false, b, false, false, false]))
                  (by intro b; cases b <;> rfl) (by intro b; cases b <;> kernel_rfl) (by intro b; cases b <;> kernel_rfl) rfl rfl rfl (by kernel_rfl) (by decide) (by kernel_rfl) (fun c a w h => h) (by intro W _; exact exec_move rfl (by rw [hA]; rfl) W) (fun _ _ h => h.2.1) 6 ?_
                refine f1_take (c := 8) (dp := 9) (d := 86) (v := (.agg #[.int .i64 la2, .slice o2 n2 c2, .int .i64 la2, .int .i64 la2])) (J := (fun fp W => ((BytesN W ob bs ∧ FieldsN W o2 T2)) ∧ Below wd.heap.size wd W ∧ ZV wd.heap.size (.cells #[.int .i64 0, .slice none 0 0, .int .i64 0, .int .i64 0] 30) fp W)) (L := (fun b => #[true, true, true, true, true, true, true, true, false, false, false, b, false, false, false])) (L' := (fun b => #[true, true, true, true, true, true, true, true, true, false, false, b, false, false, false]))
                  (by intro b; cases b <;> rfl) (by intro b; cases b <;> kernel_rfl) (by intro b; cases b <;> kernel_rfl) rfl rfl rfl (by kernel_rfl) (by decide) (by kernel_rfl) (fun c a w h => h) (by intro W _; exact exec_extract rfl (by rw [hA]; rfl) rfl W) (fun _ _ h => h.2.1) 5 ?_
                refine f1_take (c := 9) (dp := 9) (d := 87) (v := (.slice ob nb cb)) (J := (fun fp W => ((BytesN W ob bs ∧ FieldsN W o2 T2)) ∧ Below wd.heap.size wd W ∧ ZV wd.heap.size (.cells #[.int .i64 0, .slice none 0 0, .int .i64 0, .int .i64 0] 30) fp W)) (L := (fun b => #[true, true, true, true, true, true, true, true, true, false, false, b, false, false, false])) (L' := (fun b => #[true, true, true, true, true, true, true, true, true, true, false, b, false, false, false]))
                  (by intro b; cases b <;> rfl) (by intro b; cases b <;> kernel_rfl) (by intro b; cases b <;> kernel_rfl) rfl rfl rfl (by kernel_rfl) (by decide) (by kernel_rfl) (fun c a w h => h) (by intro W _; exact exec_extract rfl (by rw [hA]; rfl) rfl W) (fun _ _ h => h.2.1) 4 ?_
                refine f1_take (c := 10) (dp := 9) (d := 88) (v := (.int .i64 0)) (J := (fun fp W => ((BytesN W ob bs ∧ FieldsN W o2 T2)) ∧ Below wd.heap.size wd W ∧ ZV wd.heap.size (.cells #[.int .i64 0, .slice none 0 0, .int .i64 0, .int .i64 0] 30) fp W)) (L := (fun b => #[true, true, true, true, true, true, true, true, true, true, false, b, false, false, false])) (L' := (fun b => #[true, true, true, true, true, true, true, true, true, true, true, b, false, false, false]))
                  (by intro b; cases b <;> rfl) (by intro b; cases b <;> kernel_rfl) (by intro b; cases b <;> kernel_rfl) rfl rfl rfl (by kernel_rfl) (by decide) (by kernel_rfl) (fun c a w h => h) (by intro W _; exact exec_extract rfl (by rw [hA]; rfl) rfl W) (fun _ _ h => h.2.1) 3 ?_
                refine f1_last (p := 11) (dp := 9) (J := (fun fp W => ((BytesN W ob bs ∧ FieldsN W o2 T2)) ∧ Below wd.heap.size wd W ∧ ZV wd.heap.size (.cells #[.int .i64 0, .slice none 0 0, .int .i64 0, .int .i64 0] 30) fp W)) (L := (fun b => #[true, true, true, true, true, true, true, true, true, true, true, b, false, false, false])) rfl (by kernel_rfl) ?_ (fun _ _ h => h.2.1) 3 ?_
                · rintro W ⟨hf, hb, hz⟩
                  refine Makes.wpOp (z := (.cells #[.int .i64 0, .slice none 0 0, .int .i64 0, .int .i64 0] 30)) (makes_est rfl rfl rfl rfl) ⟨_, rfl, ⟨hf.1.below (below_new _), hf.2.below (below_new _)⟩, hb.trans ((below_new _).mono hb.size), ZV.made _ hb.size⟩
                rintro gv W ⟨hf, hb, hz⟩
                obtain ⟨g, rfl, hg, hrow⟩ := hz _ rfl
                have HROW := Lib.hid hrow
                have HG := Lib.hid hg
                have HF := Lib.hid hf
                have HB := Lib.hid hb
                clear hz hrow hf hb
                simp only [hA, Act.put, List.setIfInBounds_toArray, List.set_cons_zero, List.set_cons_succ]
                clear hA
                refine wpAnyH_store (i := 12) (by kernel_rfl) rfl rfl rfl _ _ _ rfl g #[.int .i64 la2, .slice o2 n2 c2, .int .i64 la2, .int .i64 la2] rfl rfl 30 _ HROW.out (by kernel_rfl) rfl (by kernel_rfl) (below_row HB.out HG.out _) (fun hHeld => ?_)
                refine wpAnyH_takeD (i := 13) (v := ?_) (some 10) rfl rfl rfl (by kernel_rfl) (by kernel_rfl) (by kernel_rfl) (fun _ _ _ h => h) ?_ (by assumption) ?_
                rotate_left
                · intro W hW
                  go_simp
                  with_reducible rfl
                try simp only [Act.put, List.setIfInBounds_toArray, List.set_cons_zero, List.set_cons_succ]
                refine wpAnyH_takeD (i := 14) (v := ?_) (some 11) rfl rfl rfl (by kernel_rfl) (by kernel_rfl) (by kernel_rfl) (fun _ _ _ h => h) ?_ (by assumption) ?_
                rotate_left
                · intro W hW
                  go_simp
                  with_reducible rfl
                try simp only [Act.put, List.setIfInBounds_toArray, List.set_cons_zero, List.set_cons_succ]
                refine wpAnyH_done (by kernel_rfl) ?_ _
                have HVV := Lib.hid hHeld
                clear hHeld hg
                go_wp2_with fail
                go_meet
                exact ⟨g, o2, n2, c2, T2, ob, nb, cb, bs, rfl, rfl, rfl, HP.out, setRow_heap _ _ _ _ _ _ HROW.out, HF.out.1.zeroRow HROW.out _, HF.out.2.setRow (sep_eres HF.out.2 HROW.out) _, HVV.out⟩
              case rest =>
                obtain ⟨g9, o2, n2, c2, T2, ob, nb, cb, bs, rfl, rfl, rfl, hp, h9, hby, hft, hbd⟩ := hcut
                have HP := Lib.hid hp
                have H9 := Lib.hid h9
                have HBY := Lib.hid hby
                have HFT := Lib.hid hft
                have HB9 := Lib.hid hbd
                replace HR2 := Lib.hid (HR2.out.step hbd)
                clear hp h9 hby hft hbd HBL
                obtain ⟨we, hwe⟩ : ∃ we, we = wc := ⟨_, rfl⟩
                subst hwe
                have HBZ := Lib.hid (hblock_any mx 4096 oU nT cU T HR2.out.len HR2.out.capU HR2.out.light.2 HR2.out.light.1 ob nb cb bs HP.out.2.1 HP.out.2.2.1 HP.out.2.2.2.1 we HR2.out.fU HBY.out HP.out.2.2.2.2.1)
                unfold BlkPost at HBZ
                rw [HP.out.1] at HBZ
                dsimp only at HBZ
                have e0 := HR2.out.r4.c0
                have e1 := HR2.out.r4.c1
                have e2 := HR2.out.r4.c2
                go_upto_region 19 with (first | (go_at_call 27; refine (HBZ.out).mono ?_; rintro e w7 ⟨o3, n3, c3, f3, m3, d3, rfl, h1, h2, h3, h4, h5, h6, hb⟩; obtain rfl : n2 = n3 := HP.out.2.2.2.2.2.1.symm.trans h1; have HV3 := Lib.hid (And.intro (And.intro h1 h2) (And.intro h3 (And.intro (And.intro h4 h5) (And.intro h6 hb)))); clear h1 h2 h3 h4 h5 h6 hb))
                clear e0 e1 e2 HBZ
                have HN8 := Lib.hid (below_new (W := w7) (.cells #[.int .i64 la2, .slice o3 n2 c3, .int .i64 4096] 45))
                have HB8 := Lib.hid (show Below we.heap.size we (w7.alloc (.cells #[.int .i64 la2, .slice o3 n2 c3, .int .i64 4096] 45)) from bs_hd HV3.out.2.2.2.2 HN8.out)
                have H12 := Lib.hid (HRow.new w7 la2 4096 (.slice o3 n2 c3))
                have HF3 := Lib.hid (And.intro (HV3.out.2.1.below HN8.out) (HV3.out.2.2.2.1.below HN8.out))
                replace H9 := Lib.hid (H9.out.step HB8.out)
                replace HFT := Lib.hid (HFT.out.below HB8.out)
                replace HR2 := Lib.hid (HR2.out.step HB8.out)
                replace HV3 := Lib.hid (And.intro HV3.out.1 HV3.out.2.2.1)
                clear HN8 HB8 HBY
                generalize w7.alloc (.cells #[.int .i64 la2, .slice o3 n2 c3, .int .i64 4096] 45) = w8 at *
                generalize w7.heap.size = g12 at *
                go_cut [129] (fun v129 wx => v129 = .bool false ∧ Below w8.heap.size w8 wx)
                case first =>
                  have HSF := Lib.hid (fun W (hW : Below w8.heap.size w8 W) => sameFields_any f3 ao m3 an d3 ac al al HV3.out.2.1 HXN.out (by have := HL8.out; have := HV3.out.2.1; omega) (by have := HL8.out; have := HXN.out; omega) W (HF3.out.2.below hW) (HXF.out W (bs_hd HR2.out.below hW)))
                  have HT2 : T2.length ≤ 128 ∧ (∀ f ∈ T2, lightF f = true) := chk_light (echk_facts HP.out.2.2.2.2.2.2.2).1
                  have HTL := Lib.hid HT2
                  clear HT2
                  have HRS := Lib.hid (fun W (hW : Below w8.heap.size w8 W) => refSame_any la2 la2 o2 o3 n2 n2 c2 c3 T2 T2 HP.out.2.2.2.2.2.1 HV3.out.1.1 (by have := HTL.out.1; have := HP.out.2.2.2.2.2.1; omega) (by have := HTL.out.1; have := HV3.out.1.1; omega) W (HFT.out.below hW) (HF3.out.1.below hW))
                  have HEC := Lib.hid (fun W (hW : Below w8.heap.size w8 W) => echeck_any la2 la2 la2 o2 n2 c2 T2 HP.out.2.2.2.2.2.1 HTL.out.2 (by have := HTL.out.1; have := HP.out.2.2.2.2.2.1; omega) W (HFT.out.below hW))
                  rw [sameL_self] at HSF HRS
                  rw [HP.out.2.2.2.2.2.2.2] at HEC
                  have e0 : (decide (la2 = la2) && true) = true := by simp
                  rw [e0] at HRS
                  clear e0
                  obtain ⟨⟨b9, o9, ho9, l0, l1⟩, _⟩ := (HAS.out _ HR2.out.below) k _ HX.out
                  injection ho9 with ho9
                  injection ho9 with hb9 ho9 _
                  subst hb9
                  subst ho9
                  dsimp only at l0 l1
                  have e0 := H9.out.c0
                  have e1 := H9.out.c1
                  have e2 := H9.out.c2
                  have e3 := H9.out.c3
                  have y0 := H12.out.c0
                  have y1 := H12.out.c1
                  have y2 := H12.out.c2
                  clear e0 e1 e2 e3 y0 y1 y2
                  go_wp2_with fail
                  refine (HSF.out _ (Below.refl _ _)).mono ?_
                  rintro e wa ⟨rfl, hba⟩
                  have HBA := Lib.hid hba
                  clear hba
                  have e0 := (H9.out.step HBA.out).c0
                  have e1 := (H9.out.step HBA.out).c1
                  have y0 := (H12.out.step HBA.out).c0
                  have y1 := (H12.out.step HBA.out).c1
                  clear l0 l1
                  go_wp2_with fail
                  refine (HRS.out _ HBA.out).mono ?_
                  rintro e wb9 ⟨rfl, hba⟩
                  replace HBA := Lib.hid (bs_hd HBA.out hba)
                  clear hba e0 e1 y0 y1
                  have e0 := (H9.out.step HBA.out).c0
                  have e1 := (H9.out.step HBA.out).c1
                  have e2 := (H9.out.step HBA.out).c2
                  have e3 := (H9.out.step HBA.out).c3
                  go_wp2_with fail
                  refine (HEC.out _ HBA.out).mono ?_
                  rintro e wd9 ⟨rfl, hba⟩
                  replace HBA := Lib.hid (bs_hd HBA.out hba)
                  clear hba e0 e1 e2 e3
                  go_wp2_with fail
                  go_meet
                  exact ⟨rfl, HBA.out⟩
                case rest =>
                  obtain ⟨rfl, hbd⟩ := hcut
                  replace H9 := Lib.hid (H9.out.step hbd)
                  replace H12 := Lib.hid (H12.out.step hbd)
                  replace HFT := Lib.hid (HFT.out.below hbd)
                  replace HF3 := Lib.hid (HF3.out.1.below hbd)
                  replace HR2 := Lib.hid (HR2.out.step (hbd.trans (Below.refl _ _).drew))
                  clear hbd
                  obtain ⟨wf, hwf⟩ : ∃ wf, wf = wc := ⟨_, rfl⟩
                  subst hwf
                  go_upto_region 21 with fail
                  have HRD := Lib.hid (show (fun W => ERow W g9 la2 (.slice o2 n2 c2) la2 la2 ∧ HRow W g12 la2 (.slice o3 n2 c3) 4096) wf.drew from ⟨H9.out.step (Below.refl _ _).drew, H12.out.step (Below.refl _ _).drew⟩)
                  refine wp_region_held_drew (S := fun W => ERow W g9 la2 (.slice o2 n2 c2) la2 la2 ∧ HRow W g12 la2 (.slice o3 n2 c3) 4096) (by kernel_rfl) HRD.out (fun hHeld => ?_)
                  clear HRD
                  refine wpAnyH_takeD (i := 0) (v := ?_) (some 130) rfl rfl rfl (by kernel_rfl) (by kernel_rfl) (by kernel_rfl) (fun _ _ _ h => h) ?_ (by assumption) ?_
                  rotate_left
                  · intro W hW
                    have e0 := hW.1.c0
                    have e1 := hW.1.c1
                    have e2 := hW.1.c2
                    have e3 := hW.1.c3
                    go_simp
                    with_reducible rfl
                  try simp only [Act.put, List.setIfInBounds_toArray, List.set_cons_zero, List.set_cons_succ]
                  refine wpAnyH_takeD (i := 1) (v := ?_) (some 131) rfl rfl rfl (by kernel_rfl) (by kernel_rfl) (by kernel_rfl) (fun _ _ _ h => h) ?_ (by assumption) ?_
                  rotate_left
                  · intro W hW
                    have e0 := hW.2.c0
                    have e1 := hW.2.c1
                    have e2 := hW.2.c2
                    go_simp
                    with_reducible rfl
                  try simp only [Act.put, List.setIfInBounds_toArray, List.set_cons_zero, List.set_cons_succ]
                  have HNE := Lib.hid HR2.out.ne
                  have HS1 := Lib.hid (show (fun W => ERow W g9 la2 (.slice o2 n2 c2) la2 la2 ∧ HRow W g12 la2 (.slice o3 n2 c3) 4096) (wf.drew.setRow q3 #[.int .i64 la2, .slice o2 n2 c2, .int .i64 la2, .int .i64 la2]) from ⟨ERow.again hHeld.1 HR2.out.r3, (setRow_other _ _ _ _ (HRow.apart hHeld.2 HR2.out.r3)).trans hHeld.2⟩)
                  have HR4 := Lib.hid (show HRow (wf.drew.setRow q3 #[.int .i64 la2, .slice o2 n2 c2, .int .i64 la2, .int .i64 la2]) q4 mx (.slice oU nT cU) 4096 from (setRow_other _ _ _ _ HR2.out.ne.symm).trans HR2.out.r4)
                  refine wpAnyH_store (i := 2) (by kernel_rfl) rfl rfl rfl _ _ _ rfl q3 #[.int .i64 la2, .slice o2 n2 c2, .int .i64 la2, .int .i64 la2] rfl rfl 30 _ HR2.out.r3 (by kernel_rfl) rfl (by kernel_rfl) HS1.out (fun hHeld => ?_)
                  have HS2 := Lib.hid (show (fun W => ERow W g9 la2 (.slice o2 n2 c2) la2 la2 ∧ HRow W g12 la2 (.slice o3 n2 c3) 4096) ((wf.drew.setRow q3 #[.int .i64 la2, .slice o2 n2 c2, .int .i64 la2, .int .i64 la2]).setRow q4 #[.int .i64 la2, .slice o3 n2 c3, .int .i64 4096]) from ⟨(setRow_other _ _ _ _ (HRow.apart HR4.out hHeld.1).symm).trans hHeld.1, HRow.again hHeld.2 HR4.out⟩)
                  refine wpAnyH_store (i := 3) (by kernel_rfl) rfl rfl rfl _ _ _ rfl q4 #[.int .i64 la2, .slice o3 n2 c3, .int .i64 4096] rfl rfl 45 _ HR4.out (by kernel_rfl) rfl (by kernel_rfl) HS2.out (fun hHeld => ?_)
                  refine wpAnyH_done (by kernel_rfl) ?_ _
                  clear hHeld
                  go_wp2_with fail
                  go_roundw
                  case rel => exact ⟨k + 1, la2, la2, la2, o2, n2, c2, o3, c3, T2, by go_num, by omega, HR2.out.turn (HFT.out.below (Below.refl _ _).drew) (HF3.out.below (Below.refl _ _).drew) HP.out.2.2.2.2.2.1 HP.out.2.2.2.2.2.2.1 HV3.out.1.2 HP.out.2.2.2.2.2.2.2⟩
                  case measure => simp [intOf]; omega
          · rw [decide_eq_false hok]
            clear hok
            go_wp2_with (go_at_call 11; refine (HAW.out _).mono ?_; rintro e w9 ⟨rfl, hb⟩; have HB9 := Lib.hid hb; clear hb)
            go_ret
            exact ⟨rfl, bs_hd HR.out.below HB9.out⟩
      · have q2 : decide ((k : Int) < (n : Int)) = false := decide_eq_false (by omega)
        go_wp2_with (go_at_call 11; refine (HAW.out _).mono ?_; rintro e w9 ⟨rfl, hb⟩; have HB9 := Lib.hid hb; clear hb)
        go_ret
        exact ⟨rfl, bs_hd HR.out.below HB9.out⟩
end Go.Proofs.Yteceinojmdgmeaa

