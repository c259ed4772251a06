/- HdecForms: the walk. -/
import Derived.Test.YteceinojmdgmeaaC43
import Derived.Test.YteceinojmdgmeaaF06
import Derived.Test.YteceinojmdgmeaaC01
import Derived.Test.YteceinojmdgmeaaC28
import Derived.Deep.RegionHeld
import Derived.Deep.DeepCutAuto
namespace Go.Proofs.Yteceinojmdgmeaa
open Go.RowKit
set_option linter.unusedVariables false
set_option linter.unusedSimpArgs false

set_option maxRecDepth 100000 in
set_option maxHeartbeats 8000000 in
theorem hdecForms_any (oa : Option Addr) (n cap : Nat) (L : List Fld) (hn : L.length = n) (w : World) (hf : FieldsN w oa L) :
    Calls Try.prog 6 #[.slice oa n cap] w fun e w' => e = .returned (.bool true) ∧ Below w.heap.size w w' := by
  have HAW := Lib.hid (fun W => awake06_any W)
  have HNW := Lib.hid (fun W => hnew_any 4096 W)
  unfold NewPost at HNW
  rw [newN_1.1, newN_1.2] at HNW
  have HN := Lib.hid hn
  have HF := Lib.hid (show ∀ W, Below w.heap.size w W → FieldsN W oa L from fun W hW => hf.below hW)
  clear hn hf
  go_enter Try.func6, Try.ntmps6
  go_upto_region 2 with (first | (go_at_call 17; refine (HNW.out _).mono ?_; rintro e w1 ⟨rfl, hb⟩; have HB1 := Lib.hid hb; clear hb))
  have HS := Lib.hid (HRow.new w1 4096 4096 (.slice none 0 0))
  replace HB1 := Lib.hid (bs_hd HB1.out (below_new (W := w1) (.cells #[.int .i64 4096, .slice none 0 0, .int .i64 4096] 45)))
  generalize w1.alloc (.cells #[.int .i64 4096, .slice none 0 0, .int .i64 4096] 45) = wB at HS HB1 ⊢
  generalize w1.heap.size = g3 at HS ⊢
  by_cases h12 : 12 < n
  · have q1 : decide ((12 : Int) < (n : Int)) = true := decide_eq_true (by omega)
    go_wp2_with (go_at_call 13; refine (HAW.out _).mono ?_; rintro e w9 ⟨rfl, hb⟩; have HB9 := Lib.hid hb; clear hb)
    go_ret
    exact ⟨rfl, HB1.out.trans (HB9.out.mono HB1.out.size)⟩
  · have q1 : decide ((12 : Int) < (n : Int)) = false := decide_eq_false (by omega)
    have s0 := HS.out.c0
    have s1 := HS.out.c1
    go_upto_region 6 with fail
    have HR0 := Lib.hid (FRel.new wB)
    have HBW := Lib.hid (show ∀ W, Below wB.heap.size wB W → Below w.heap.size w W from fun W hW => HB1.out.trans (hW.mono HB1.out.size))
    have HFW := Lib.hid (show ∀ W, Below wB.heap.size wB W → FieldsN W oa L from fun W hW => HF.out W (HBW.out W hW))
    have HSW := Lib.hid (show ∀ W, Below wB.heap.size wB W → HRow W g3 4096 (.slice none 0 0) 4096 from fun W hW => HS.out.step hW)
    generalize wB.alloc (.cells #[.int .i64 4096, .slice none 0 0] 28) = w4 at HR0 ⊢
    clear s0 s1 HS HF HB1 HNW
    go_wp2_with fail
    go_loopw [5, 6, 8] (fun av bv iv wr => ∃ (k : Nat) (va vb : Value) (its : List Itm) (ot : Option Addr) (tn tc : Nat), av = va ∧ bv = vb ∧ iv = .int .i64 k ∧ k ≤ n ∧ Sm60 (L.take k) ∧ (∀ x ∈ its, OkI x) ∧ noR its ∧ its.length ≤ k ∧ hRun 4096 its 4096 [] false [] = (4096, tabF (L.take k), (L.take k).map clr, 0) ∧ FRel wB va vb (catP (L.take k)) (catI its) ot tn tc (tabF (L.take k)) wr) (fun _ _ iv _ => n - (intOf iv).toNat)
    case atStart => exact ⟨0, _, _, [], none, 0, 0, rfl, rfl, rfl, Nat.zero_le _, (fun f hf => by simp at hf), (fun x hx => by cases hx), (fun x hx => by cases hx), Nat.le_refl _, rfl, by simpa [catP, catI, tabF] using HR0.out⟩
    case round =>
      obtain ⟨k, va, vb, its, ot, tn, tc, hva, hvb, rfl, hk, hsm, hok, hno, hlen, hrun, hrel⟩ := hrel
      obtain rfl := hva.symm
      obtain rfl := hvb.symm
      have HR := Lib.hid hrel
      have HSM := Lib.hid hsm
      have HIT := Lib.hid (And.intro hok (And.intro hno (And.intro hlen hrun)))
      clear hva hvb hsm hok hno hlen hrun hrel HR0
      by_cases hlt : k < n
      · have q2 : decide ((k : Int) < (n : Int)) = true := decide_eq_true (by omega)
        have hw8 : IntKind.i64.wrap ((k : Int) + 1) = (k : Int) + 1 := IntWalk.i64_in _ (by omega)
        obtain ⟨f, hx⟩ : ∃ f, L[k]? = some f := ⟨L[k]'(by rw [HN.out]; exact hlt), List.getElem?_eq_getElem _⟩
        obtain ⟨b0, o0, rfl, l0, l1, l2⟩ := (HFW.out _ HR.out.below) k f hx
        obtain ⟨fn, fv, fb⟩ := f
        dsimp only at l0 l1 l2
        by_cases hnm : 60 < fn.size
        · have q3 : decide ((60 : Int) < (fn.size : Int)) = true := decide_eq_true (by omega)
          go_wp2_with (go_at_call 13; refine (HAW.out _).mono ?_; rintro e w9 ⟨rfl, hb⟩; have HB9 := Lib.hid hb; clear hb)
          go_ret
          exact ⟨rfl, HBW.out _ (HR.out.below.trans (HB9.out.mono HR.out.below.size))⟩
        have q3 : decide ((60 : Int) < (fn.size : Int)) = false := decide_eq_false (by omega)
        by_cases hvl : 60 < fv.size
        · have q4 : decide ((60 : Int) < (fv.size : Int)) = true := decide_eq_true (by omega)
          go_wp2_with (go_at_call 13; refine (HAW.out _).mono ?_; rintro e w9 ⟨rfl, hb⟩; have HB9 := Lib.hid hb; clear hb)
          go_ret
          exact ⟨rfl, HBW.out _ (HR.out.below.trans (HB9.out.mono HR.out.below.size))⟩
        have q4 : decide ((60 : Int) < (fv.size : Int)) = false := decide_eq_false (by omega)
        have HX := Lib.hid hx
        have HTK := Lib.hid (show L.take (k + 1) = L.take k ++ [⟨fn, fv, fb⟩] from by rw [List.take_add_one, hx]; rfl)
        have HSM2 := Lib.hid (show Sm60 (L.take (k + 1)) from by
          rw [HTK.out]
          intro y hy
          rcases List.mem_append.1 hy with hy | hy
          · exact HSM.out y hy
          · obtain rfl := List.mem_singleton.1 hy; exact ⟨by show fn.size ≤ _; omega, by show fv.size ≤ _; omega⟩)
        have HPL := Lib.hid (show (catP (L.take k)).length + (plainN fn).length + (plainN fv).length + 1 ≤ 100000 from by
          have h1 := catP_len _ HSM.out
          have h2 := plain_len fn (by omega)
          have h3 := plain_len fv (by omega)
          rw [List.length_take] at h1
          omega)
        have HTX := Lib.hid (fun W => And.intro (plain_any fn (by omega) W) (plain_any fv (by omega) W))
        have hcl := chk_light (tabF_chk (L.take k))
        have HTL := Lib.hid (show (tabF (L.take k)).length ≤ 1000 from by have := hcl.1; omega)
        have HTF := Lib.hid hcl.2
        have HAD := Lib.hid (fun its hno hr ix nm (h : Adds (tabF (L.take k)) ⟨fn, fv, fb⟩ ⟨1, ix, nm, fv⟩) => h.run (cp := 4096) (its := its) (O := (L.take k).map clr) hno hr)
        have HPA := Lib.hid (show catP (L.take k) ++ itemP fn fv = catP (L.take (k + 1)) from by rw [HTK.out, catP_app]; simp [catP])
        have HTB := Lib.hid (show addL 4096 (tabF (L.take k)) ⟨fn, fv, fb⟩ = tabF (L.take (k + 1)) from by rw [HTK.out, tabF_snoc])
        have HMC := Lib.hid (show (L.take k).map clr ++ [clr ⟨fn, fv, fb⟩] = (L.take (k + 1)).map clr from by rw [HTK.out, List.map_append]; rfl)
        have HCB := Lib.hid (show (catI its).length ≤ 208 * 12 from by have h1 := catI_big its HIT.out.1; have h2 := HIT.out.2.2.1; omega)
        clear hx hcl HSM HTK
        generalize catP (L.take k) = PA at HR HPL HPA
        generalize hT : tabF (L.take k) = T at HR HTL HTF HIT HAD HTB
        generalize hO : (L.take k).map clr = O at HIT HAD HMC
        generalize hPB : catI its = PB at HR HCB
        have HPB := Lib.hid hPB
        clear hT hO hPB
        go_upto_region 11 with fail
        clear l0 l1 l2
        go_cut [5] (fun v5 wx => ∃ v, v5 = v ∧ FRel wB v vb (PA ++ itemP fn fv) PB ot tn tc T wx)
        case first =>
          refine wp_region_held_drew (S := fun W => Below wB.heap.size wB W) (by kernel_rfl) HR.out.below.drew (fun hHeld => ?_)
          refine wpAnyH_takeD (i := 0) (v := ?_) (some 64) rfl rfl rfl (by kernel_rfl) (by kernel_rfl) (by kernel_rfl) (fun _ _ _ h => h) ?_ (by assumption) ?_
          rotate_left
          · intro W hW
            go_simp
            with_reducible rfl
          try simp only [Act.put, List.setIfInBounds_toArray, List.set_cons_zero, List.set_cons_succ]
          refine wpAnyH_takeD (i := 3) (v := ?_) (some 67) rfl rfl rfl (by kernel_rfl) (by kernel_rfl) (by kernel_rfl) (fun _ _ _ h => h) ?_ (by assumption) ?_
          rotate_left
          · intro W hW
            go_simp
            with_reducible rfl
          try simp only [Act.put, List.setIfInBounds_toArray, List.set_cons_zero, List.set_cons_succ]
          refine wpAnyH_takeD (i := 4) (v := ?_) (some 68) rfl rfl rfl (by kernel_rfl) (by kernel_rfl) (by kernel_rfl) (fun _ _ _ h => h) ?_ (by assumption) ?_
          rotate_left
          · intro W hW
            go_simp
            with_reducible rfl
          try simp only [Act.put, List.setIfInBounds_toArray, List.set_cons_zero, List.set_cons_succ]
          refine wpAnyH_takeD (i := 5) (v := ?_) (some 69) rfl rfl rfl (by kernel_rfl) (by kernel_rfl) (by kernel_rfl) (fun _ _ _ h => h) ?_ (by assumption) ?_
          rotate_left
          · intro W hW
            go_simp
            with_reducible rfl
          try simp only [Act.put, List.setIfInBounds_toArray, List.set_cons_zero, List.set_cons_succ]
          refine wpAnyH_takeD (i := 6) (v := ?_) (some 70) rfl rfl rfl (by kernel_rfl) (by kernel_rfl) (by kernel_rfl) (fun _ _ _ h => h) ?_ (by assumption) ?_
          rotate_left
          · intro W hW
            go_simp
            with_reducible rfl
          try simp only [Act.put, List.setIfInBounds_toArray, List.set_cons_zero, List.set_cons_succ]
          refine wpAnyH_takeD (i := 7) (v := ?_) (some 71) rfl rfl rfl (by kernel_rfl) (by kernel_rfl) (by kernel_rfl) (fun _ _ _ h => h) ?_ (by assumption) ?_
          rotate_left
          · intro W hW
            obtain ⟨b9, o9, ho9, l0, l1, l2⟩ := (HFW.out _ hW) k _ HX.out
            injection ho9 with ho9
            injection ho9 with hb9 ho9 _
            subst hb9
            subst ho9
            dsimp only at l0 l1 l2
            go_simp
            with_reducible rfl
          try simp only [Act.put, List.setIfInBounds_toArray, List.set_cons_zero, List.set_cons_succ]
          refine wpAnyH_takeD (i := 10) (v := ?_) (some 74) rfl rfl rfl (by kernel_rfl) (by kernel_rfl) (by kernel_rfl) (fun _ _ _ h => h) ?_ (by assumption) ?_
          rotate_left
          · intro W hW
            go_simp
            with_reducible rfl
          try simp only [Act.put, List.setIfInBounds_toArray, List.set_cons_zero, List.set_cons_succ]
          refine wpAnyH_takeD (i := 11) (v := ?_) (some 75) rfl rfl rfl (by kernel_rfl) (by kernel_rfl) (by kernel_rfl) (fun _ _ _ h => h) ?_ (by assumption) ?_
          rotate_left
          · intro W hW
            go_simp
            with_reducible rfl
          try simp only [Act.put, List.setIfInBounds_toArray, List.set_cons_zero, List.set_cons_succ]
          refine wpAnyH_takeD (i := 12) (v := ?_) (some 76) rfl rfl rfl (by kernel_rfl) (by kernel_rfl) (by kernel_rfl) (fun _ _ _ h => h) ?_ (by assumption) ?_
          rotate_left
          · intro W hW
            go_simp
            with_reducible rfl
          try simp only [Act.put, List.setIfInBounds_toArray, List.set_cons_zero, List.set_cons_succ]
          refine wpAnyH_takeD (i := 13) (v := ?_) (some 77) rfl rfl rfl (by kernel_rfl) (by kernel_rfl) (by kernel_rfl) (fun _ _ _ h => h) ?_ (by assumption) ?_
          rotate_left
          · intro W hW
            go_simp
            with_reducible rfl
          try simp only [Act.put, List.setIfInBounds_toArray, List.set_cons_zero, List.set_cons_succ]
          refine wpAnyH_takeD (i := 14) (v := ?_) (some 78) rfl rfl rfl (by kernel_rfl) (by kernel_rfl) (by kernel_rfl) (fun _ _ _ h => h) ?_ (by assumption) ?_
          rotate_left
          · intro W hW
            obtain ⟨b9, o9, ho9, l0, l1, l2⟩ := (HFW.out _ hW) k _ HX.out
            injection ho9 with ho9
            injection ho9 with hb9 ho9 _
            subst hb9
            subst ho9
            dsimp only at l0 l1 l2
            go_simp
            with_reducible rfl
          try simp only [Act.put, List.setIfInBounds_toArray, List.set_cons_zero, List.set_cons_succ]
          refine name_act (fun A hA => ?_)
          have Q0 := (R11.init (PV := plainN fv) (PN := plainN fn) HR.out.oa HR.out.below HR.out.gt).drew
          clear hHeld
          refine (f2_step (p := 15) (q := 8) (c := 1) (dp := 79) (dq := 72) (J := (fun fp fq a W => a = A ∧ R11 wB wr va.ownBlock (plainN fv) (plainN fn) va PA fp fq W)) (J' := (fun fp fq a W => ∃ g, a = A.put (some 65) (.slice (some ⟨g, 0, none⟩) 1 1) ∧ BytesN W (some ⟨g, 0, none⟩) [64] ∧ R11 wB wr va.ownBlock (plainN fv) (plainN fn) va PA fp fq W)) (L := (fun b b' => #[true, false, false, true, true, true, true, true, b', false, true, true, true, true, true, b, false, false])) (L' := (fun b b' => #[true, true, false, true, true, true, true, true, b', false, true, true, true, true, true, b, false, false]))
            (by intro b; cases b <;> rfl) (by intro b; cases b <;> rfl) (by intro b b'; cases b <;> cases b' <;> rfl) (by kernel_rfl) (by kernel_rfl) (by kernel_rfl) (by kernel_rfl) (by decide)
            rfl (by kernel_rfl) (by kernel_rfl) (by simp) (by simp) (by simp) rfl (by kernel_rfl) (by simp) (by simp) rfl (by kernel_rfl) (by simp) (by simp) (fun d v c a w h => h)
            ?_ ?_ ?_ (fun _ _ _ _ ⟨_, h⟩ => h.b) (fun _ _ _ _ ⟨_, _, _, h⟩ => h.b) 4 ?_) none none A wr.drew ⟨rfl, Q0⟩
          · rintro fq a W ⟨rfl, hr⟩
            refine wpOp_call (HTX.out W).2 rfl rfl rfl (exec_call rfl (by rw [hA]; rfl) W (by go_simp)) ?_
            rintro e W' ⟨u, rfl, ho, hb⟩
            exact ⟨u, rfl, u, rfl, rfl, hr.madeP hb ho⟩
          · rintro fp a W ⟨rfl, hr⟩
            refine wpOp_call (HTX.out W).1 rfl rfl rfl (exec_call rfl (by rw [hA]; rfl) W (by go_simp)) ?_
            rintro e W' ⟨u, rfl, ho, hb⟩
            exact ⟨u, rfl, u, rfl, rfl, hr.madeQ hb ho⟩
          · rintro fp fq a W ⟨rfl, hr⟩
            exact wpOp_slice1 64 rfl rfl rfl rfl ⟨_, rfl, bytes_one W 64, hr.step (below_new _)⟩
          refine f2_step (p := 15) (q := 8) (c := 2) (dp := 79) (dq := 72) (J := (fun fp fq a W => ∃ g, a = A.put (some 65) (.slice (some ⟨g, 0, none⟩) 1 1) ∧ BytesN W (some ⟨g, 0, none⟩) [64] ∧ R11 wB wr va.ownBlock (plainN fv) (plainN fn) va PA fp fq W)) (J' := (fun fp fq a W => ∃ g v6, a = (A.put (some 65) (.slice (some ⟨g, 0, none⟩) 1 1)).put (some 66) v6 ∧ R11 wB wr va.ownBlock (plainN fv) (plainN fn) v6 (PA ++ [64]) fp fq W)) (L := (fun b b' => #[true, true, false, true, true, true, true, true, b', false, true, true, true, true, true, b, false, false])) (L' := (fun b b' => #[true, true, true, true, true, true, true, true, b', false, true, true, true, true, true, b, false, false]))
            (by intro b; cases b <;> rfl) (by intro b; cases b <;> rfl) (by intro b b'; cases b <;> cases b' <;> rfl) (by kernel_rfl) (by kernel_rfl) (by kernel_rfl) (by kernel_rfl) (by decide)
            rfl (by kernel_rfl) (by kernel_rfl) (by simp) (by simp) (by simp) rfl (by kernel_rfl) (by simp) (by simp) rfl (by kernel_rfl) (by simp) (by simp) (fun d v c a w h => h)
            ?_ ?_ ?_ (fun _ _ _ _ ⟨_, _, _, h⟩ => h.b) (fun _ _ _ _ ⟨_, _, _, h⟩ => h.b) 3 ?_
          · rintro fq a W ⟨g, rfl, hy, hr⟩
            refine wpOp_call (HTX.out W).2 rfl rfl rfl (exec_call rfl (by rw [hA]; rfl) W (by go_simp)) ?_
            rintro e W' ⟨u, rfl, ho, hb⟩
            exact ⟨u, rfl, u, rfl, g, rfl, hy.below hb, hr.madeP hb ho⟩
          · rintro fp a W ⟨g, rfl, hy, hr⟩
            refine wpOp_call (HTX.out W).1 rfl rfl rfl (exec_call rfl (by rw [hA]; rfl) W (by go_simp)) ?_
            rintro e W' ⟨u, rfl, ho, hb⟩
            exact ⟨u, rfl, u, rfl, g, rfl, hy.below hb, hr.madeQ hb ho⟩
          · rintro fp fq a W ⟨g, rfl, hy, hr⟩
            refine wpOp_appB rfl rfl rfl _ _ rfl (wB.heap.size + 1) va PA (by rw [hA]; rfl) hr.o (some ⟨g, 0, none⟩) 1 1 [64] (by rw [hA]; rfl) rfl hy (by have := HPL.out; omega) (by have := hr.b.size; have := hr.gt; have := hr.k.1; omega) ?_
            intro v6 W' hown hg hat
            exact ⟨g, v6, rfl, hr.app hg hown hat⟩
          refine f2_close (p := 15) (q := 8) (dp := 79) (dq := 72) (J := (fun fp fq a W => ∃ g v6, a = (A.put (some 65) (.slice (some ⟨g, 0, none⟩) 1 1)).put (some 66) v6 ∧ R11 wB wr va.ownBlock (plainN fv) (plainN fn) v6 (PA ++ [64]) fp fq W)) (L := (fun b b' => #[true, true, true, true, true, true, true, true, b', false, true, true, true, true, true, b, false, false]))
            (by intro b; cases b <;> rfl) (by intro b; cases b <;> rfl) (by kernel_rfl) (by kernel_rfl) (by decide) rfl (by kernel_rfl) (by simp) (by simp) (fun d v c a w h => h) ?_ ?_ (fun _ _ _ _ ⟨_, _, _, h⟩ => h.b) 3 ?_
          · rintro fq a W ⟨g, v6, rfl, hr⟩
            refine wpOp_call (HTX.out W).2 rfl rfl rfl (exec_call rfl (by rw [hA]; rfl) W (by go_simp)) ?_
            rintro e W' ⟨u, rfl, ho, hb⟩
            exact ⟨u, rfl, u, rfl, g, v6, rfl, hr.madeP hb ho⟩
          · rintro fp a W ⟨g, v6, rfl, hr⟩
            refine wpOp_call (HTX.out W).1 rfl rfl rfl (exec_call rfl (by rw [hA]; rfl) W (by go_simp)) ?_
            rintro e W' ⟨u, rfl, ho, hb⟩
            exact ⟨u, rfl, u, rfl, g, v6, rfl, hr.madeQ hb ho⟩
          rintro fp gq a W ⟨g, v6, rfl, hr⟩
          obtain ⟨aq, capq, rfl, _, _, _, _⟩ := (hr.q gq rfl).1.form3
          have q3 := hr
          clear hr
          obtain ⟨A2, hA2⟩ : ∃ A2, A2 = ((A.put (some 65) (.slice (some ⟨g, 0, none⟩) 1 1)).put (some 66) v6).put (some 72) (.slice aq (plainN fn).length capq) := ⟨_, rfl⟩
          rw [← hA2]
          rw [hA] at hA2
          simp only [Act.put, List.setIfInBounds_toArray, List.set_cons_zero, List.set_cons_succ] at hA2
          clear hA
          have q4 : A2 = A2 ∧ R11 wB wr va.ownBlock (plainN fv) (plainN fn) v6 (PA ++ [64]) fp (some (.slice aq (plainN fn).length capq)) W := ⟨rfl, q3⟩
          clear q3
          revert q4
          refine f1_step (p := 15) (c := 9) (dp := 79) (J := (fun fp a W => a = A2 ∧ R11 wB wr va.ownBlock (plainN fv) (plainN fn) v6 (PA ++ [64]) fp (some (.slice aq (plainN fn).length capq)) W)) (J' := (fun fp a W => ∃ v7, a = A2.put (some 73) v7 ∧ R11 wB wr va.ownBlock (plainN fv) (plainN fn) v7 (PA ++ [64] ++ plainN fn) fp none W)) (L := (fun b => #[true, true, true, true, true, true, true, true, true, false, true, true, true, true, true, b, false, false])) (L' := (fun b => #[true, true, true, true, true, true, true, true, true, true, true, true, true, true, true, b, false, false]))
            rfl (by intro b; cases b <;> rfl) (by kernel_rfl) (by kernel_rfl) rfl (by kernel_rfl) (by simp) (by simp) (fun d v c a w h => h) ?_ ?_ (fun _ _ _ ⟨_, h⟩ => h.b) (fun _ _ _ ⟨_, _, h⟩ => h.b) 2 ?_ fp A2 W
          · rintro a W ⟨rfl, hr⟩
            refine wpOp_call (HTX.out W).2 rfl rfl rfl (exec_call rfl (by rw [hA2]; rfl) W (by go_simp)) ?_
            rintro e W' ⟨u, rfl, ho, hb⟩
            exact ⟨u, rfl, u, rfl, rfl, hr.madeP hb ho⟩
          · rintro fp a W ⟨rfl, hr⟩
            have hq := (hr.q _ rfl).1
            refine wpOp_appB rfl rfl rfl _ _ rfl (wB.heap.size + 1) v6 (PA ++ [64]) (by rw [hA2]; rfl) hr.o aq (plainN fn).length capq (plainN fn) (by rw [hA2]; rfl) rfl (by obtain ⟨_, _, e, h, _⟩ := hq.form3; injection e with e; subst e; exact h) (by have := HPL.out; simp only [List.length_append, List.length_cons, List.length_nil]; omega) (by have := hr.b.size; have := hr.gt; have := hr.k.1; omega) ?_
            intro v7 W' hown hg hat
            have h2 := hr.app hg hown hat
            exact ⟨v7, rfl, ⟨h2.b, h2.gt, h2.k, h2.o, h2.ho, h2.p, fun u hu => by cases hu⟩⟩
          rintro fp a W ⟨v7, rfl, hr⟩
          have q3 : R11 wB wr va.ownBlock (plainN fv) (plainN fn) v7 (PA ++ [64] ++ plainN fn) fp none W := hr
          clear hr
          revert q3
          revert W
          revert fp
          refine f1_last (p := 15) (dp := 79) (J := (fun fp W => R11 wB wr va.ownBlock (plainN fv) (plainN fn) v7 (PA ++ [64] ++ plainN fn) fp none W)) (L := (fun b => #[true, true, true, true, true, true, true, true, true, true, true, true, true, true, true, b, false, false])) rfl (by kernel_rfl) ?_ (fun _ _ h => h.b) 2 ?_
          · rintro W hr
            refine wpOp_call (HTX.out W).2 rfl rfl rfl (exec_call rfl (by rw [hA2]; rfl) W (by go_simp)) ?_
            rintro e W' ⟨u, rfl, ho, hb⟩
            exact ⟨u, rfl, u, rfl, hr.madeP hb ho⟩
          rintro gv W hr
          obtain ⟨ap, capp, rfl, hby, _, _, _⟩ := (hr.p gv rfl).1.form3
          refine f0_step (c := 16) (by kernel_rfl) ?_
          refine wpOp_appB rfl rfl rfl _ _ rfl (wB.heap.size + 1) v7 (PA ++ [64] ++ plainN fn) (by rw [hA2]; rfl) hr.o ap (plainN fv).length capp (plainN fv) (by rw [hA2]; rfl) rfl hby (by have := HPL.out; simp only [List.length_append, List.length_cons, List.length_nil]; omega) (by have := hr.b.size; have := hr.gt; have := hr.k.1; omega) ?_
          intro v8 W' hown hg hat
          have hr8 := hr.app hg hown hat
          refine ⟨hr8.b, ?_⟩
          have HR8 := Lib.hid hr8
          have hHeld := hr8.b
          clear hr8 hr hown hg hat hby
          rw [hA2]
          simp only [Act.put, List.setIfInBounds_toArray, List.set_cons_zero, List.set_cons_succ]
          clear hA2
          refine wpAnyH_takeD (i := 17) (v := ?_) (some 5) rfl rfl rfl (by kernel_rfl) (by kernel_rfl) (by kernel_rfl) (fun _ _ _ h => h) ?_ (by assumption) ?_
          rotate_left
          · intro W hW
            go_simp
            with_reducible rfl
          try simp only [Act.put, List.setIfInBounds_toArray, List.set_cons_zero, List.set_cons_succ]
          refine wpAnyH_done (by kernel_rfl) ?_ _
          clear hHeld
          go_wp2_with fail
          go_meet
          exact ⟨_, rfl, by have := HR.out.grownA HR8.out; rw [show PA ++ itemP fn fv = PA ++ [64] ++ plainN fn ++ plainN fv from by simp [itemP]]; exact this⟩
        case rest =>
          obtain ⟨v, hv5, hrel⟩ := hcut
          obtain rfl := hv5.symm
          replace HR := Lib.hid hrel
          clear hrel
          obtain ⟨wr, hwr⟩ : ∃ wr, wr = wc := ⟨_, rfl⟩
          subst hwr
          go_upto_region 12 with fail
          go_cut [9] (fun v9 wx => ∃ g9, v9 = .pointer (some ⟨g9, 0, none⟩) ∧ IRow wx g9 1 0 fn fv ∧ Below wr.heap.size wr wx ∧ wr.heap.size ≤ g9)
          case first =>
            have hdr : Below wr.heap.size wr wr.drew := (Below.refl _ _).drew
            refine wp_region_held_drew (S := fun W => Below wr.heap.size wr W) (by kernel_rfl) hdr (fun hHeld => ?_)
            clear hdr
            refine wpAnyH_takeD (i := 0) (v := ?_) (some 81) rfl rfl rfl (by kernel_rfl) (by kernel_rfl) (by kernel_rfl) (fun _ _ _ h => h) ?_ (by assumption) ?_
            rotate_left
            · intro W hW
              go_simp
              with_reducible rfl
            try simp only [Act.put, List.setIfInBounds_toArray, List.set_cons_zero, List.set_cons_succ]
            refine wpAnyH_takeD (i := 1) (v := ?_) (some 82) rfl rfl rfl (by kernel_rfl) (by kernel_rfl) (by kernel_rfl) (fun _ _ _ h => h) ?_ (by assumption) ?_
            rotate_left
            · intro W hW
              go_simp
              with_reducible rfl
            try simp only [Act.put, List.setIfInBounds_toArray, List.set_cons_zero, List.set_cons_succ]
            refine wpAnyH_takeD (i := 2) (v := ?_) (some 83) rfl rfl rfl (by kernel_rfl) (by kernel_rfl) (by kernel_rfl) (fun _ _ _ h => h) ?_ (by assumption) ?_
            rotate_left
            · intro W hW
              go_simp
              with_reducible rfl
            try simp only [Act.put, List.setIfInBounds_toArray, List.set_cons_zero, List.set_cons_succ]
            refine wpAnyH_takeD (i := 3) (v := ?_) (some 84) rfl rfl rfl (by kernel_rfl) (by kernel_rfl) (by kernel_rfl) (fun _ _ _ h => h) ?_ (by assumption) ?_
            rotate_left
            · intro W hW
              go_simp
              with_reducible rfl
            try simp only [Act.put, List.setIfInBounds_toArray, List.set_cons_zero, List.set_cons_succ]
            refine wpAnyH_takeD (i := 4) (v := ?_) (some 85) rfl rfl rfl (by kernel_rfl) (by kernel_rfl) (by kernel_rfl) (fun _ _ _ h => h) ?_ (by assumption) ?_
            rotate_left
            · intro W hW
              obtain ⟨b9, o9, ho9, l0, l1, l2⟩ := (HFW.out _ (HR.out.below.trans (hW.mono HR.out.below.size))) k _ HX.out
              injection ho9 with ho9
              injection ho9 with hb9 ho9 _
              subst hb9
              subst ho9
              dsimp only at l0 l1 l2
              go_simp
              with_reducible rfl
            try simp only [Act.put, List.setIfInBounds_toArray, List.set_cons_zero, List.set_cons_succ]
            refine wpAnyH_takeD (i := 5) (v := ?_) (some 86) rfl rfl rfl (by kernel_rfl) (by kernel_rfl) (by kernel_rfl) (fun _ _ _ h => h) ?_ (by assumption) ?_
            rotate_left
            · intro W hW
              go_simp
              with_reducible rfl
            try simp only [Act.put, List.setIfInBounds_toArray, List.set_cons_zero, List.set_cons_succ]
            refine wpAnyH_takeD (i := 6) (v := ?_) (some 87) rfl rfl rfl (by kernel_rfl) (by kernel_rfl) (by kernel_rfl) (fun _ _ _ h => h) ?_ (by assumption) ?_
            rotate_left
            · intro W hW
              go_simp
              with_reducible rfl
            try simp only [Act.put, List.setIfInBounds_toArray, List.set_cons_zero, List.set_cons_succ]
            refine wpAnyH_takeD (i := 7) (v := ?_) (some 88) rfl rfl rfl (by kernel_rfl) (by kernel_rfl) (by kernel_rfl) (fun _ _ _ h => h) ?_ (by assumption) ?_
            rotate_left
            · intro W hW
              go_simp
              with_reducible rfl
            try simp only [Act.put, List.setIfInBounds_toArray, List.set_cons_zero, List.set_cons_succ]
            refine wpAnyH_takeD (i := 8) (v := ?_) (some 89) rfl rfl rfl (by kernel_rfl) (by kernel_rfl) (by kernel_rfl) (fun _ _ _ h => h) ?_ (by assumption) ?_
            rotate_left
            · intro W hW
              go_simp
              with_reducible rfl
            try simp only [Act.put, List.setIfInBounds_toArray, List.set_cons_zero, List.set_cons_succ]
            refine wpAnyH_takeD (i := 9) (v := ?_) (some 90) rfl rfl rfl (by kernel_rfl) (by kernel_rfl) (by kernel_rfl) (fun _ _ _ h => h) ?_ (by assumption) ?_
            rotate_left
            · intro W hW
              obtain ⟨b9, o9, ho9, l0, l1, l2⟩ := (HFW.out _ (HR.out.below.trans (hW.mono HR.out.below.size))) k _ HX.out
              injection ho9 with ho9
              injection ho9 with hb9 ho9 _
              subst hb9
              subst ho9
              dsimp only at l0 l1 l2
              go_simp
              with_reducible rfl
            try simp only [Act.put, List.setIfInBounds_toArray, List.set_cons_zero, List.set_cons_succ]
            refine wpAnyH_takeD (i := 10) (v := ?_) (some 91) rfl rfl rfl (by kernel_rfl) (by kernel_rfl) (by kernel_rfl) (fun _ _ _ h => h) ?_ (by assumption) ?_
            rotate_left
            · intro W hW
              go_simp
              with_reducible rfl
            try simp only [Act.put, List.setIfInBounds_toArray, List.set_cons_zero, List.set_cons_succ]
            refine f0_step (c := 11) (by kernel_rfl) ?_
            refine Makes.wpOp (z := .cells #[.int .u8 0, .int .i64 0, .string ⟨#[]⟩, .string ⟨#[]⟩] 49) ⟨⟨_, rfl, rfl, rfl, fun ρ W => by go_simp⟩⟩ ?_
            have hh2 := hHeld.trans ((below_new (W := wr.drew) (.cells #[.int .u8 0, .int .i64 0, .string ⟨#[]⟩, .string ⟨#[]⟩] 49)).mono (Nat.le_refl _))
            refine ⟨hh2, ?_⟩
            simp only [Act.put, List.setIfInBounds_toArray, List.set_cons_zero, List.set_cons_succ]
            have HZ := Lib.hid (heap_alloc_new wr.drew (.cells #[.int .u8 0, .int .i64 0, .string ⟨#[]⟩, .string ⟨#[]⟩] 49))
            clear hHeld
            have hHeld := hh2
            clear hh2
            refine wpAnyH_store (i := 12) (by kernel_rfl) rfl rfl rfl _ _ _ rfl wr.drew.heap.size #[.int .u8 1, .int .i64 0, .string fn, .string fv] rfl rfl 49 _ HZ.out (by kernel_rfl) rfl (by kernel_rfl) (below_row hHeld (Nat.le_refl _) _) (fun hHeld => ?_)
            refine wpAnyH_done (by kernel_rfl) ?_ _
            have HVV := Lib.hid hHeld
            clear hHeld
            go_wp2_with fail
            go_meet
            exact ⟨_, rfl, setRow_heap _ _ _ _ _ _ HZ.out, HVV.out, Nat.le_refl _⟩
          case rest =>
            obtain ⟨g9, rfl, hir, hb12, hg9⟩ := hcut
            have HIR := Lib.hid hir
            have HRQ := Lib.hid HR.out
            have HBQ := Lib.hid hb12
            have HG9 := Lib.hid hg9
            replace HR := Lib.hid (HR.out.step hb12)
            obtain ⟨wq, hwq⟩ : ∃ wq, wq = wr := ⟨_, rfl⟩
            subst hwq
            obtain ⟨wr, hwr⟩ : ∃ wr, wr = wc := ⟨_, rfl⟩
            subst hwr
            clear hir hb12 hg9
            go_upto_region 13 with fail
            go_cut [10, 11] (fun v10 v11 wx => ∃ (p : Nat) (x : Bool), DFound T fn fv p x ∧ v10 = .int .i64 (p : Int) ∧ v11 = .bool x ∧ Below wr.heap.size wr wx)
            case first =>
              have hdr : Below wr.heap.size wr wr.drew := (Below.refl _ _).drew
              refine wp_region_held_drew (S := fun W => Below wr.heap.size wr W) (by kernel_rfl) hdr (fun hHeld => ?_)
              clear hdr
              refine wpAnyH_takeD (i := 0) (v := ?_) (some 93) rfl rfl rfl (by kernel_rfl) (by kernel_rfl) (by kernel_rfl) (fun _ _ _ h => h) ?_ (by assumption) ?_
              rotate_left
              · intro W hW
                have t0 : W.cell? ⟨wB.heap.size, 0, none⟩ = some (.int .i64 4096) := cell_of_row _ _ 0 _ _ _ (HR.out.step hW).tr
                have t1 : W.cell? ⟨wB.heap.size, 1, none⟩ = some (.slice ot tn tc) := cell_of_row _ _ 1 _ _ _ (HR.out.step hW).tr
                go_simp
                with_reducible rfl
              try simp only [Act.put, List.setIfInBounds_toArray, List.set_cons_zero, List.set_cons_succ]
              refine wpAnyH_takeD (i := 1) (v := ?_) (some 94) rfl rfl rfl (by kernel_rfl) (by kernel_rfl) (by kernel_rfl) (fun _ _ _ h => h) ?_ (by assumption) ?_
              rotate_left
              · intro W hW
                go_simp
                with_reducible rfl
              try simp only [Act.put, List.setIfInBounds_toArray, List.set_cons_zero, List.set_cons_succ]
              refine wpAnyH_takeD (i := 2) (v := ?_) (some 95) rfl rfl rfl (by kernel_rfl) (by kernel_rfl) (by kernel_rfl) (fun _ _ _ h => h) ?_ (by assumption) ?_
              rotate_left
              · intro W hW
                go_simp
                with_reducible rfl
              try simp only [Act.put, List.setIfInBounds_toArray, List.set_cons_zero, List.set_cons_succ]
              refine wpAnyH_takeD (i := 3) (v := ?_) (some 96) rfl rfl rfl (by kernel_rfl) (by kernel_rfl) (by kernel_rfl) (fun _ _ _ h => h) ?_ (by assumption) ?_
              rotate_left
              · intro W hW
                go_simp
                with_reducible rfl
              try simp only [Act.put, List.setIfInBounds_toArray, List.set_cons_zero, List.set_cons_succ]
              refine wpAnyH_takeD (i := 4) (v := ?_) (some 97) rfl rfl rfl (by kernel_rfl) (by kernel_rfl) (by kernel_rfl) (fun _ _ _ h => h) ?_ (by assumption) ?_
              rotate_left
              · intro W hW
                go_simp
                with_reducible rfl
              try simp only [Act.put, List.setIfInBounds_toArray, List.set_cons_zero, List.set_cons_succ]
              refine wpAnyH_takeD (i := 5) (v := ?_) (some 98) rfl rfl rfl (by kernel_rfl) (by kernel_rfl) (by kernel_rfl) (fun _ _ _ h => h) ?_ (by assumption) ?_
              rotate_left
              · intro W hW
                obtain ⟨b9, o9, ho9, l0, l1, l2⟩ := (HFW.out _ (HR.out.below.trans (hW.mono HR.out.below.size))) k _ HX.out
                injection ho9 with ho9
                injection ho9 with hb9 ho9 _
                subst hb9
                subst ho9
                dsimp only at l0 l1 l2
                go_simp
                with_reducible rfl
              try simp only [Act.put, List.setIfInBounds_toArray, List.set_cons_zero, List.set_cons_succ]
              refine wpAnyH_takeD (i := 6) (v := ?_) (some 99) rfl rfl rfl (by kernel_rfl) (by kernel_rfl) (by kernel_rfl) (fun _ _ _ h => h) ?_ (by assumption) ?_
              rotate_left
              · intro W hW
                go_simp
                with_reducible rfl
              try simp only [Act.put, List.setIfInBounds_toArray, List.set_cons_zero, List.set_cons_succ]
              refine wpAnyH_takeD (i := 7) (v := ?_) (some 100) rfl rfl rfl (by kernel_rfl) (by kernel_rfl) (by kernel_rfl) (fun _ _ _ h => h) ?_ (by assumption) ?_
              rotate_left
              · intro W hW
                go_simp
                with_reducible rfl
              try simp only [Act.put, List.setIfInBounds_toArray, List.set_cons_zero, List.set_cons_succ]
              refine wpAnyH_takeD (i := 8) (v := ?_) (some 101) rfl rfl rfl (by kernel_rfl) (by kernel_rfl) (by kernel_rfl) (fun _ _ _ h => h) ?_ (by assumption) ?_
              rotate_left
              · intro W hW
                go_simp
                with_reducible rfl
              try simp only [Act.put, List.setIfInBounds_toArray, List.set_cons_zero, List.set_cons_succ]
              refine wpAnyH_takeD (i := 9) (v := ?_) (some 102) rfl rfl rfl (by kernel_rfl) (by kernel_rfl) (by kernel_rfl) (fun _ _ _ h => h) ?_ (by assumption) ?_
              rotate_left
              · intro W hW
                go_simp
                with_reducible rfl
              try simp only [Act.put, List.setIfInBounds_toArray, List.set_cons_zero, List.set_cons_succ]
              refine wpAnyH_takeD (i := 10) (v := ?_) (some 103) rfl rfl rfl (by kernel_rfl) (by kernel_rfl) (by kernel_rfl) (fun _ _ _ h => h) ?_ (by assumption) ?_
              rotate_left
              · intro W hW
                obtain ⟨b9, o9, ho9, l0, l1, l2⟩ := (HFW.out _ (HR.out.below.trans (hW.mono HR.out.below.size))) k _ HX.out
                injection ho9 with ho9
                injection ho9 with hb9 ho9 _
                subst hb9
                subst ho9
                dsimp only at l0 l1 l2
                go_simp
                with_reducible rfl
              try simp only [Act.put, List.setIfInBounds_toArray, List.set_cons_zero, List.set_cons_succ]
              refine name_act (fun A hA => ?_)
              refine f0_step (c := 11) (by kernel_rfl) ?_
              refine wpOp_call (dFind_any 4096 ot tn tc T HR.out.len.1 (by have := HTL.out; have := HR.out.len.1; omega) fn fv wr.drew (HR.out.step hHeld).ft) rfl rfl rfl (exec_call rfl (by rw [hA]; rfl) _ (by go_simp)) ?_
              rintro e W ⟨p, x, hdf, rfl, hb⟩
              refine ⟨_, rfl, hHeld.trans hb, ?_⟩
              have HDF := Lib.hid hdf
              replace hHeld := hHeld.trans hb
              clear hdf hb
              rw [hA]
              simp only [Act.put, List.setIfInBounds_toArray, List.set_cons_zero, List.set_cons_succ]
              clear hA
              refine wpAnyH_takeD (i := 12) (v := ?_) (some 92) rfl rfl rfl (by kernel_rfl) (by kernel_rfl) (by kernel_rfl) (fun _ _ _ h => h) ?_ (by assumption) ?_
              rotate_left
              · intro W hW
                go_simp
                with_reducible rfl
              try simp only [Act.put, List.setIfInBounds_toArray, List.set_cons_zero, List.set_cons_succ]
              refine wpAnyH_takeD (i := 13) (v := ?_) (some 105) rfl rfl rfl (by kernel_rfl) (by kernel_rfl) (by kernel_rfl) (fun _ _ _ h => h) ?_ (by assumption) ?_
              rotate_left
              · intro W hW
                go_simp
                with_reducible rfl
              try simp only [Act.put, List.setIfInBounds_toArray, List.set_cons_zero, List.set_cons_succ]
              refine wpAnyH_takeD (i := 14) (v := ?_) (some 106) rfl rfl rfl (by kernel_rfl) (by kernel_rfl) (by kernel_rfl) (fun _ _ _ h => h) ?_ (by assumption) ?_
              rotate_left
              · intro W hW
                go_simp
                with_reducible rfl
              try simp only [Act.put, List.setIfInBounds_toArray, List.set_cons_zero, List.set_cons_succ]
              refine wpAnyH_takeD (i := 15) (v := ?_) (some 10) rfl rfl rfl (by kernel_rfl) (by kernel_rfl) (by kernel_rfl) (fun _ _ _ h => h) ?_ (by assumption) ?_
              rotate_left
              · intro W hW
                go_simp
                with_reducible rfl
              try simp only [Act.put, List.setIfInBounds_toArray, List.set_cons_zero, List.set_cons_succ]
              refine wpAnyH_takeD (i := 16) (v := ?_) (some 11) rfl rfl rfl (by kernel_rfl) (by kernel_rfl) (by kernel_rfl) (fun _ _ _ h => h) ?_ (by assumption) ?_
              rotate_left
              · intro W hW
                go_simp
                with_reducible rfl
              try simp only [Act.put, List.setIfInBounds_toArray, List.set_cons_zero, List.set_cons_succ]
              refine wpAnyH_done (by kernel_rfl) ?_ _
              have HVV := Lib.hid hHeld
              clear hHeld
              go_wp2_with fail
              go_meet
              exact ⟨p, x, HDF.out, rfl, rfl, HVV.out⟩
            case rest =>
              obtain ⟨p, x, hdf, rfl, rfl, hb13⟩ := hcut
              have HDF := Lib.hid hdf
              replace HIR := Lib.hid (HIR.out.step hb13)
              replace HR := Lib.hid (HR.out.step hb13)
              replace HBQ := Lib.hid (HBQ.out.trans (hb13.mono HBQ.out.size))
              clear hdf hb13
              go_upto_if 108 with fail
              go_cut [] (fun wx => ∃ (ix : Int) (nm : ByteArray), IRow wx g9 1 ix nm fv ∧ FRel wB v vb (PA ++ itemP fn fv) PB ot tn tc T wx ∧ Adds T ⟨fn, fv, fb⟩ ⟨1, ix, nm, fv⟩ ∧ OkI ⟨1, ix, nm, fv⟩)
              case first =>
                by_cases hp : 0 < p
                · have q5 : decide ((0 : Int) < (p : Int)) = true := decide_eq_true (by omega)
                  have q6 : decide (0 < p) = true := decide_eq_true hp
                  have q7 : 0 < p := hp
                  obtain ⟨hads, hple⟩ := adds_place (f := ⟨fn, fv, fb⟩) HDF.out hp
                  have HADS := Lib.hid hads
                  have HOKX := Lib.hid (show OkI ⟨1, (p : Int), ⟨#[]⟩, fv⟩ from ⟨by
                    have := HTL.out
                    unfold chkI
                    rw [if_neg (by show ¬ 4 < 1; omega), if_neg (by show ¬ ((p : Int) < 0 ∨ 268435455 < (p : Int) ∨ _); intro h; rcases h with h | h | h; omega; omega; exact absurd h.1 (by show ¬ (1 : Nat) = 0; decide)), if_neg (by
                      unfold extraI
                      rw [if_pos (by show litK 1 = true; decide)]
                      have he : (⟨#[]⟩ : ByteArray).toList.isEmpty = true := by decide +kernel
                      simp [he]), if_neg (by show ¬ ((⟨#[]⟩ : ByteArray).size > 4096 ∨ fv.size > 4096); intro h; rcases h with h | h; exact absurd h (by decide); omega)], by show (0 : Nat) ≤ 100; omega, by show fv.size ≤ 100; omega⟩)
                  have z1 := frozen_of_row _ _ 1 _ _ HIR.out
                  have z2 := frozen_of_row _ _ 2 _ _ HIR.out
                  have x1 := HIR.out.c1
                  have x2 := HIR.out.c2
                  clear hads hple hp
                  go_wp2_with fail
                  go_meet
                  refine ⟨(p : Int), ⟨#[]⟩, ?_, ?_, HADS.out, HOKX.out⟩
                  · rw [setCell_eq_setRow _ _ _ _ _ _ _ HIR.out, setCell_eq_setRow _ _ _ _ _ _ _ (setRow_heap _ _ _ _ _ _ HIR.out)]
                    exact setRow_heap _ _ _ _ _ _ (setRow_heap _ _ _ _ _ _ HIR.out)
                  · exact HRQ.out.step ((HBQ.out.setCell (p := ⟨g9, 1, none⟩) HG9.out _).setCell (p := ⟨g9, 2, none⟩) HG9.out _)
                · have q5 : decide ((0 : Int) < (p : Int)) = false := decide_eq_false (by omega)
                  have q6 : decide (0 < p) = false := decide_eq_false hp
                  have q7 : ¬ (0 < p) := hp
                  have HOKX := Lib.hid (show OkI ⟨1, 0, fn, fv⟩ from ⟨by
                    unfold chkI
                    rw [if_neg (by show ¬ 4 < 1; omega), if_neg (by show ¬ ((0 : Int) < 0 ∨ 268435455 < (0 : Int) ∨ _); intro h; rcases h with h | h | h; omega; omega; exact absurd h.1 (by show ¬ (1 : Nat) = 0; decide)), if_neg (by
                      unfold extraI
                      rw [if_pos (by show litK 1 = true; decide)]
                      simp), if_neg (by show ¬ (fn.size > 4096 ∨ fv.size > 4096); omega)], by show fn.size ≤ 100; omega, by show fv.size ≤ 100; omega⟩)
                  clear hp
                  go_wp2_with fail
                  go_meet
                  exact ⟨0, fn, HIR.out, HR.out, adds_plain T ⟨fn, fv, fb⟩, HOKX.out⟩
              case rest =>
                obtain ⟨ix, nm, hir, hrel, hads, hokx⟩ := hcut
                have HIX := Lib.hid hir
                replace HR := Lib.hid hrel
                have HADX := Lib.hid hads
                have HOKX := Lib.hid hokx
                clear hir hrel hads hokx HIR HRQ HBQ HG9 HDF
                have x0 := HIX.out.c0
                have x1 := HIX.out.c1
                have x2 := HIX.out.c2
                have x3 := HIX.out.c3
                go_upto_region 16 with fail
                go_wp2_with fail
                refine (rput_any 1 ix nm fv (by omega) _).mono ?_
                clear x0 x1 x2 x3
                rintro e w6 (⟨hc0, rfl, hb⟩ | ⟨hc0, v6, rfl, ho, hb⟩)
                · exact absurd HOKX.out.1 hc0
                · have HO6 := Lib.hid ho
                  replace HR := Lib.hid (HR.out.step hb)
                  clear hc0 ho hb
                  obtain ⟨og, cg, rfl, hby, hcg, _, _⟩ := HO6.out.form3
                  have HBY := Lib.hid hby
                  have hbl := itemN_len100 ⟨1, ix, nm, fv⟩ HOKX.out.1 HOKX.out.2.1 HOKX.out.2.2
                  have hn1 := HOKX.out.2.1
                  dsimp only at hn1 hbl
                  have HIB := Lib.hid (show catI its ++ itemN ⟨1, ix, nm, fv⟩ = catI (its ++ [⟨1, ix, nm, fv⟩]) from by rw [catI_append, catI_one])
                  rw [HPB.out] at HIB
                  generalize itemN ⟨1, ix, nm, fv⟩ = bs at HO6 HBY hbl HIB hcg
                  generalize hbn : bs.length = nb at hbl hcg
                  have HBN := Lib.hid hbn
                  have HWS := Lib.hid (show wB.heap.size + 1 ≤ w6.heap.size from HR.out.gt)
                  have HLB := Lib.hid (show PB.length + nb ≤ 100000 by have := HCB.out; omega)
                  clear hby hcg hbl hbn hn1
                  go_upto_region 20 with (first | (at_builtin; refine wpList_appB rfl _ _ rfl (wB.heap.size + 1) vb PB rfl HR.out.ob og nb cg bs rfl HBN.out HBY.out (by have := HLB.out; omega) HWS.out ?_; intro v7 w7 hown hg hat; have HR7 := Lib.hid (HR.out.grownB hg hown hat); clear hown hg hat))
                  clear HR
                  rename Hid (FRel wB v v7 (PA ++ itemP fn fv) (PB ++ bs) ot tn tc T w7) => HR
                  obtain ⟨wr, hwr⟩ : ∃ wr, wr = w7 := ⟨_, rfl⟩
                  subst hwr
                  have HFL := Lib.hid (show lightF ⟨fn, fv, fb⟩ = true from by simp only [lightF, Bool.and_eq_true, decide_eq_true_eq]; omega)
                  refine wp_region_held_drew (S := fun W => Below wB.heap.size wB W) (by kernel_rfl) HR.out.below.drew (fun hHeld => ?_)
                  refine wpAnyH_takeD (i := 1) (v := ?_) (some 123) rfl rfl rfl (by kernel_rfl) (by kernel_rfl) (by kernel_rfl) (fun _ _ _ h => h) ?_ (by assumption) ?_
                  rotate_left
                  · intro W hW
                    go_simp
                    with_reducible rfl
                  try simp only [Act.put, List.setIfInBounds_toArray, List.set_cons_zero, List.set_cons_succ]
                  refine wpAnyH_takeD (i := 2) (v := ?_) (some 124) rfl rfl rfl (by kernel_rfl) (by kernel_rfl) (by kernel_rfl) (fun _ _ _ h => h) ?_ (by assumption) ?_
                  rotate_left
                  · intro W hW
                    go_simp
                    with_reducible rfl
                  try simp only [Act.put, List.setIfInBounds_toArray, List.set_cons_zero, List.set_cons_succ]
                  refine wpAnyH_takeD (i := 3) (v := ?_) (some 125) rfl rfl rfl (by kernel_rfl) (by kernel_rfl) (by kernel_rfl) (fun _ _ _ h => h) ?_ (by assumption) ?_
                  rotate_left
                  · intro W hW
                    go_simp
                    with_reducible rfl
                  try simp only [Act.put, List.setIfInBounds_toArray, List.set_cons_zero, List.set_cons_succ]
                  refine wpAnyH_takeD (i := 4) (v := ?_) (some 126) rfl rfl rfl (by kernel_rfl) (by kernel_rfl) (by kernel_rfl) (fun _ _ _ h => h) ?_ (by assumption) ?_
                  rotate_left
                  · intro W hW
                    obtain ⟨b9, o9, ho9, l0, l1, l2⟩ := (HFW.out _ hW) k _ HX.out
                    injection ho9 with ho9
                    injection ho9 with hb9 ho9 _
                    subst hb9
                    subst ho9
                    dsimp only at l0 l1 l2
                    go_simp
                    with_reducible rfl
                  try simp only [Act.put, List.setIfInBounds_toArray, List.set_cons_zero, List.set_cons_succ]
                  have HRD := Lib.hid (HR.out.step ((Below.refl wr.heap.size wr).drew))
                  have t0 : wr.drew.cell? ⟨wB.heap.size, 0, none⟩ = some (.int .i64 4096) := cell_of_row _ _ 0 _ _ _ HRD.out.tr
                  have t1 : wr.drew.cell? ⟨wB.heap.size, 1, none⟩ = some (.slice ot tn tc) := cell_of_row _ _ 1 _ _ _ HRD.out.tr
                  refine f0_step (c := 0) (by kernel_rfl) ?_
                  refine wpOp_val (v := .agg #[.int .i64 4096, .slice ot tn tc]) rfl rfl rfl ?_ ⟨hHeld, ?_⟩
                  · go_simp
                  clear t0 t1
                  simp only [Act.put, List.setIfInBounds_toArray, List.set_cons_zero, List.set_cons_succ]
                  refine name_act (fun A hA => ?_)
                  refine f0_step (c := 5) (by kernel_rfl) ?_
                  refine wpOp_call (add_any 4096 ot tn tc T HR.out.len.1 HTF.out (by have := HTL.out; have := HR.out.len.1; omega) ⟨fn, fv, fb⟩ HFL.out wr.drew HRD.out.ft) rfl rfl rfl (exec_call rfl (by rw [hA]; rfl) _ (by go_simp)) ?_
                  rintro e W ⟨v, rfl, ho, hb⟩
                  obtain ⟨ot2, tc2, rfl, hf2, hc2, _, hx2⟩ := ho.form
                  have HW2 := Lib.hid (hHeld.trans (hb.mono HRD.out.below.size))
                  refine ⟨_, rfl, HW2.out, ?_⟩
                  have HT2 := Lib.hid (HRD.out.turn hb hf2 ⟨rfl, hc2⟩ (fun a ha => (hx2 a ha).1))
                  have HTR := Lib.hid ((HRD.out.step hb).tr)
                  generalize hn2 : (addL 4096 T ⟨fn, fv, fb⟩).length = tn2 at HT2 ⊢
                  clear ho hb hf2 hc2 hx2 hn2 hHeld HRD
                  rw [hA]
                  simp only [Act.put, List.setIfInBounds_toArray, List.set_cons_zero, List.set_cons_succ]
                  clear hA
                  refine wpAnyH_store (i := 6) (by kernel_rfl) rfl rfl rfl _ _ _ rfl wB.heap.size #[.int .i64 4096, .slice ot2 tn2 tc2] rfl rfl 28 _ HTR.out (by kernel_rfl) rfl (by kernel_rfl) (below_row HW2.out (Nat.le_refl _) _) (fun hHeld2 => ?_)
                  refine wpAnyH_done (by kernel_rfl) ?_ _
                  clear hHeld2 HR
                  rename Hid (FRel _ _ _ _ _ _ _ _ (addL 4096 T ⟨fn, fv, fb⟩) _) => HR
                  have HRUN := Lib.hid (HAD.out its HIT.out.2.1 HIT.out.2.2.2 ix nm HADX.out)
                  rw [HMC.out, HTB.out] at HRUN
                  rw [HPA.out, HIB.out, HTB.out] at HR
                  go_wp2_with fail
                  go_roundw
                  case rel => exact ⟨k + 1, _, _, its ++ [⟨1, ix, nm, fv⟩], ot2, tn2, tc2, rfl, rfl, by go_num, by omega, HSM2.out, (fun y hy => by rcases List.mem_append.1 hy with h | h; exact HIT.out.1 y h; obtain rfl := List.mem_singleton.1 h; exact HOKX.out), (fun y hy => by rcases List.mem_append.1 hy with h | h; exact HIT.out.2.1 y h; obtain rfl := List.mem_singleton.1 h; show (1 : Nat) ≠ 4; decide), by have := HIT.out.2.2.1; simp; omega, HRUN.out, HR.out⟩
                  case measure => simp [intOf]; omega
      · obtain rfl : k = n := by omega
        have q2 : decide ((k : Int) < (k : Int)) = false := by simp
        have HTK := Lib.hid (show L.take k = L from List.take_of_length_le (by rw [HN.out]; exact Nat.le_refl _))
        rw [HTK.out] at HSM HIT HR
        clear HTK
        have HBLA := Lib.hid (blk_plain L HSM.out)
        have HBLB := Lib.hid (blk_places L its HIT.out.1 HIT.out.2.2.2)
        obtain ⟨is, F, hfr, his, hFl, hF⟩ := frmR_form L
        rw [hfr] at HBLA HBLB
        have HIS := Lib.hid (show decide (((sumF L : Nat) : Int) ≤ 1024) = is from by rw [his]; exact decide_eq_decide.2 (by omega))
        have HFE := Lib.hid hF
        have HFL := Lib.hid hFl
        have HPLA := Lib.hid (show (catP L).length ≤ 5000 from by have h1 := catP_len _ HSM.out; have h2 := HN.out; omega)
        have HPLB := Lib.hid (show (catI its).length ≤ 5000 from by have h1 := catI_big its HIT.out.1; have h2 := HIT.out.2.2.1; omega)
        have HSL := Lib.hid (sm_light HSM.out)
        have HC0 := Lib.hid (catP_bytes L)
        have HC1 := Lib.hid (catI_bytes its HIT.out.1)
        have hcl := chk_light (tabF_chk L)
        have HTL := Lib.hid (show (tabF L).length ≤ 1000 from by have := hcl.1; omega)
        have HB256 := Lib.hid (show ∀ bs : List Nat, (∀ y ∈ bs, y < 256) → ∀ i, i < bs.length → bs.getD i 0 < 256 from fun bs h i hi => by
          rw [List.getD_eq_getElem?_getD, List.getElem?_eq_getElem hi]
          exact h _ (List.getElem_mem hi))
        clear hfr his hF hFl hcl HSM
        generalize catP L = PA at HR HBLA HPLA HC0
        generalize catI its = PB at HR HBLB HPLB HC1
        generalize tabF L = T at HR HBLA HBLB HTL
        clear HIT
        obtain ⟨a1, k1, rfl, hby1, hcp1, _, _⟩ := HR.out.oa.form3
        obtain ⟨a2, k2, rfl, hby2, hcp2, _, _⟩ := HR.out.ob.form3
        have HY1 := Lib.hid hby1
        have HY2 := Lib.hid hby2
        have HBA := Lib.hid (fun W (h : BytesN W a1 PA) => hblock_any 4096 4096 none 0 0 [] rfl (Nat.le_refl _) (fun f hf => by cases hf) (by omega) a1 _ k1 PA rfl hcp1 HPLA.out W (FieldsN.nil _ _) h (HB256.out _ HC0.out))
        have HBB := Lib.hid (fun W (h : BytesN W a2 PB) => hblock_any 4096 4096 none 0 0 [] rfl (Nat.le_refl _) (fun f hf => by cases hf) (by omega) a2 _ k2 PB rfl hcp2 HPLB.out W (FieldsN.nil _ _) h (HB256.out _ HC1.out))
        unfold BlkPost at HBA HBB
        rw [HBLA.out] at HBA
        rw [HBLB.out] at HBB
        dsimp only at HBA HBB
        have HSR := Lib.hid (HSW.out _ HR.out.below)
        have HWW := Lib.hid HR.out.below
        clear hby1 hby2 hcp1 hcp2 HBLA HBLB HPLA HPLB HC0 HC1 HB256 HR HSW
        have s0 := HSR.out.c0
        have s1 := HSR.out.c1
        have s2 := HSR.out.c2
        go_upto_region 22 with (first | (go_at_call 27; refine (HBA.out _ HY1.out).mono ?_; rintro e w6 ⟨o1, n1, c1, f1, m1, d1, rfl, h1, h2, h3, h4, h5, h6, hb⟩; have HV1 := Lib.hid (And.intro h1 (And.intro h4 (And.intro h3 (And.intro h6 hb)))); clear h1 h2 h3 h4 h5 h6 hb))
        clear s0 s1 s2
        have HN1 := Lib.hid (below_new (W := w6) (.cells #[.int .i64 4096, .slice o1 n1 c1, .int .i64 4096] 45))
        have HB7 := Lib.hid (bs_hd HV1.out.2.2.2.2 HN1.out)
        have H14 := Lib.hid (HRow.new w6 4096 4096 (.slice o1 n1 c1))
        have HF1 := Lib.hid (And.intro (HV1.out.2.2.1.below HN1.out) (HV1.out.2.2.2.1.below HN1.out))
        have HL1 := Lib.hid (And.intro HV1.out.1 HV1.out.2.1)
        replace HSR := Lib.hid (HSR.out.step HB7.out)
        replace HY2 := Lib.hid (HY2.out.below HB7.out)
        replace HWW := Lib.hid (HWW.out.trans (HB7.out.mono HWW.out.size))
        clear HV1 HN1 HB7 HY1 HBA
        generalize w6.alloc (.cells #[.int .i64 4096, .slice o1 n1 c1, .int .i64 4096] 45) = w7 at H14 HF1 HSR HY2 HWW ⊢
        generalize w6.heap.size = g14 at H14 ⊢
        have s0 := HSR.out.c0
        have s1 := HSR.out.c1
        have s2 := HSR.out.c2
        go_upto_region 23 with (first | (go_at_call 27; refine (HBB.out _ HY2.out).mono ?_; rintro e w8 ⟨o2, n2, c2, f2, m2, d2, rfl, h1, h2, h3, h4, h5, h6, hb⟩; have HV2 := Lib.hid (And.intro h1 (And.intro h4 (And.intro h3 (And.intro h6 hb)))); clear h1 h2 h3 h4 h5 h6 hb))
        clear s0 s1 s2
        have HN2 := Lib.hid (below_new (W := w8) (.cells #[.int .i64 4096, .slice o2 n2 c2, .int .i64 4096] 45))
        have HB9 := Lib.hid (bs_hd HV2.out.2.2.2.2 HN2.out)
        have H18 := Lib.hid (HRow.new w8 4096 4096 (.slice o2 n2 c2))
        have HF2 := Lib.hid (And.intro (HV2.out.2.2.1.below HN2.out) (HV2.out.2.2.2.1.below HN2.out))
        have hm12 : m1 = m2 := HL1.out.2.symm.trans HV2.out.2.1
        subst hm12
        have HL2 := Lib.hid HV2.out.1
        replace HF1 := Lib.hid (And.intro (HF1.out.1.below HB9.out) (HF1.out.2.below HB9.out))
        replace H14 := Lib.hid (H14.out.step HB9.out)
        replace HWW := Lib.hid (HWW.out.trans (HB9.out.mono HWW.out.size))
        clear HV2 HN2 HB9 HY2 HBB HSR
        generalize w8.alloc (.cells #[.int .i64 4096, .slice o2 n2 c2, .int .i64 4096] 45) = we at *
        generalize w8.heap.size = g18 at *
        have HSS := Lib.hid (sameL_self2 T)
        have HSA := Lib.hid (show ∀ W, FieldsN W o1 T → FieldsN W o2 T → Calls Try.prog 23 #[.agg #[.int .i64 4096, .slice o1 n1 c1, .int .i64 4096], .agg #[.int .i64 4096, .slice o2 n2 c2, .int .i64 4096]] W fun e w' => e = .returned (.bool true) ∧ Below W.heap.size W w' from fun W h1 h2 => (hsame_any 4096 4096 4096 4096 o1 o2 n1 n2 c1 c2 T T HL1.out.1 HL2.out (HL1.out.1 ▸ HTL.out) (HL2.out ▸ HTL.out) W h1 h2).mono (by rintro e w' ⟨rfl, hb⟩; exact ⟨by simp [HSS.out], hb⟩))
        have HSZ := Lib.hid (show ∀ W, FieldsN W oa L → Calls Try.prog 24 #[.slice oa k cap] W fun e w' => e = .returned (.int .i64 (sumF L : Nat)) ∧ Below W.heap.size W w' from fun W h => hsize_any oa k cap L HN.out HSL.out (by omega) W h)
        have q9 := HIS.out
        generalize sumF L = S at HSZ q9
        clear HIS HSS
        have HE := Lib.hid (And.intro HF1.out.1 HF2.out.1)
        have HI := Lib.hid (And.intro HF1.out.2 HF2.out.2)
        clear HF1 HF2
        have t0 := H14.out.c0
        have t1 := H14.out.c1
        have t2 := H14.out.c2
        have r0 := H18.out.c0
        have r1 := H18.out.c1
        have r2 := H18.out.c2
        go_upto_region 25 with (first
          | (go_at_call 23; refine (HSA.out _ HE.out.1 HE.out.2).mono ?_; rintro e w9 ⟨rfl, hb⟩; replace HI := Lib.hid (And.intro (HI.out.1.below hb) (HI.out.2.below hb)); replace HWW := Lib.hid (HWW.out.trans (hb.mono HWW.out.size)); clear hb)
          | (go_at_call 24; refine (HSZ.out _ (HFW.out _ HWW.out)).mono ?_; rintro e w10 ⟨rfl, hb⟩; replace HI := Lib.hid (And.intro (HI.out.1.below hb) (HI.out.2.below hb)); replace HWW := Lib.hid (HWW.out.trans (hb.mono HWW.out.size)); clear hb))
        clear t0 t1 t2 r0 r1 r2 q9 HE HSA HSZ H14 H18
        obtain ⟨wf, hwf⟩ : ∃ wf, wf = w10 := ⟨_, rfl⟩
        subst hwf
        go_wp2_with fail
        go_loopw [22] (fun iv wr => ∃ j : Nat, iv = .int .i64 j ∧ j ≤ m1 ∧ Below wf.heap.size wf wr) (fun iv _ => m1 - (intOf iv).toNat)
        case atStart => exact ⟨0, rfl, Nat.zero_le _, Below.refl _ _⟩
        case round =>
          obtain ⟨j, rfl, hj, hbr⟩ := hrel
          have HBR := Lib.hid hbr
          clear hbr
          have hm12 : m1 ≤ 12 := by have := HL1.out.2; have := HFL.out; have := HN.out; omega
          by_cases hjm : j < m1
          · have q2 : decide ((j : Int) < (m1 : Int)) = true := decide_eq_true (by omega)
            have hw8 : IntKind.i64.wrap ((j : Int) + 1) = (j : Int) + 1 := IntWalk.i64_in _ (by omega)
            obtain ⟨f, hf⟩ : ∃ f, F[j]? = some f := ⟨F[j]'(by rw [HL1.out.2]; exact hjm), List.getElem?_eq_getElem _⟩
            obtain ⟨g, hg, hfg⟩ := HFE.out j f hf
            have hjn : j < k := by have := (List.getElem?_eq_some_iff.1 hg).1; rw [HN.out] at this; exact this
            obtain ⟨gn, gv, gb⟩ := g
            subst hfg
            have HCF := Lib.hid (show ∀ W, Below wf.heap.size wf W → (∃ b o, f1 = some ⟨b, o, none⟩ ∧ W.cell? ⟨b, o + j * 3, none⟩ = some (.string gn) ∧ W.cell? ⟨b, o + j * 3 + 1, none⟩ = some (.string gv) ∧ W.cell? ⟨b, o + j * 3 + 2, none⟩ = some (.bool false)) ∧ (∃ b o, f2 = some ⟨b, o, none⟩ ∧ W.cell? ⟨b, o + j * 3, none⟩ = some (.string gn) ∧ W.cell? ⟨b, o + j * 3 + 1, none⟩ = some (.string gv) ∧ W.cell? ⟨b, o + j * 3 + 2, none⟩ = some (.bool false)) ∧ (∃ b o, oa = some ⟨b, o, none⟩ ∧ W.cell? ⟨b, o + j * 3, none⟩ = some (.string gn) ∧ W.cell? ⟨b, o + j * 3 + 1, none⟩ = some (.string gv) ∧ W.cell? ⟨b, o + j * 3 + 2, none⟩ = some (.bool gb)) from fun W hW =>
              ⟨(HI.out.1.below hW) j _ hf, (HI.out.2.below hW) j _ hf, ((HFW.out _ HWW.out).below hW) j _ hg⟩)
            obtain ⟨⟨b1, p1, rfl, _⟩, ⟨b2, p2, rfl, _⟩, ⟨b3, p3, rfl, _⟩⟩ := HCF.out _ HBR.out
            have HCG := Lib.hid (show ∀ W, Below wf.heap.size wf W → (W.cell? ⟨b1, p1 + j * 3, none⟩ = some (.string gn) ∧ W.cell? ⟨b1, p1 + j * 3 + 1, none⟩ = some (.string gv) ∧ W.cell? ⟨b1, p1 + j * 3 + 2, none⟩ = some (.bool false)) ∧ (W.cell? ⟨b2, p2 + j * 3, none⟩ = some (.string gn) ∧ W.cell? ⟨b2, p2 + j * 3 + 1, none⟩ = some (.string gv) ∧ W.cell? ⟨b2, p2 + j * 3 + 2, none⟩ = some (.bool false)) ∧ (W.cell? ⟨b3, p3 + j * 3, none⟩ = some (.string gn) ∧ W.cell? ⟨b3, p3 + j * 3 + 1, none⟩ = some (.string gv) ∧ W.cell? ⟨b3, p3 + j * 3 + 2, none⟩ = some (.bool gb)) from fun W hW => by
              obtain ⟨⟨b1', p1', e1, h1⟩, ⟨b2', p2', e2, h2⟩, ⟨b3', p3', e3, h3⟩⟩ := HCF.out W hW
              injection e1 with e1; injection e1 with e1 e1' _; subst e1; subst e1'
              injection e2 with e2; injection e2 with e2 e2' _; subst e2; subst e2'
              injection e3 with e3; injection e3 with e3 e3' _; subst e3; subst e3'
              exact ⟨h1, h2, h3⟩)
            clear HCF hf hg
            go_upto_region 28 with fail
            refine class_region (C := fun W => Below wf.heap.size wf W) (by kernel_rfl) (by kernel_rfl) HBR.out.drew ?_
            clear HBR
            repeat
              first
                | (with_reducible refine q_plainE rfl rfl ?_)
                | (with_reducible refine q_yesE 181 rfl (by kernel_rfl) (by kernel_rfl) rfl ?_)
              apply Exists.intro
              with_reducible refine ⟨?_, ?_⟩
              · intro W hW
                unfold QAt
                first
                  | (go_simp; done)
                  | (go_simp; with_reducible rfl)
                  | (obtain ⟨⟨x0, x1, x2⟩, ⟨y0, y1, y2⟩, ⟨z0, z1, z2⟩⟩ := HCG.out W hW
                     first | (go_simp; done) | (go_simp; with_reducible rfl))
              apply Exists.intro
              with_reducible refine ⟨?_, ?_⟩
              · simp only [Act.put, List.setIfInBounds_toArray, List.set_cons_zero, List.set_cons_succ]
                exact isAct_rfl _
            with_reducible refine qrest_nil ?_
            intro w' hw'
            go_wp2_with fail
            go_roundw
            case rel => exact ⟨j + 1, by go_num, by omega, hw'⟩
            case measure => simp [intOf]; omega
          · have q2 : decide ((j : Int) < (m1 : Int)) = false := decide_eq_false (by omega)
            go_wp2_with (go_at_call 13; refine (HAW.out _).mono ?_; rintro e w9 ⟨rfl, hb⟩; have HB9 := Lib.hid hb; clear hb)
            go_ret
            exact ⟨rfl, HBW.out _ (HWW.out.trans ((HBR.out.trans (HB9.out.mono HBR.out.size)).mono HWW.out.size))⟩
end Go.Proofs.Yteceinojmdgmeaa

