/- The statement HdecSteps: the walk. -/
import Derived.Test.YteceinojmdgmeaaC43
import Derived.Test.YteceinojmdgmeaaC50
import Derived.Test.YteceinojmdgmeaaC41
import Derived.Test.YteceinojmdgmeaaC51
import Derived.Test.YteceinojmdgmeaaC01
import Derived.Deep.RegionHeld
import Derived.Test.YteceinojmdgmeaaC28
import Derived.Test.YteceinojmdgmeaaC52
namespace Go.Proofs.Yteceinojmdgmeaa
open Go.RowKit
set_option linter.unusedVariables false
set_option linter.unusedSimpArgs false

theorem bcellV {W w1 : World} (hb : Below W.heap.size W w1) : (∀ b o, b < W.heap.size → w1.cell? ⟨b, o, none⟩ = W.cell? ⟨b, o, none⟩) ∧ (∀ b o, b < W.heap.size → w1.frozen? ⟨b, o, none⟩ = W.frozen? ⟨b, o, none⟩) :=
  ⟨fun b o h => hb.cell (p := ⟨b, o, none⟩) h, fun b o h => hb.frozen (p := ⟨b, o, none⟩) h⟩
/-- The two arguments, in rows of their own. -/
structure Vh (w : World) (mx cp : Int) (v : Value) (k : Nat) (i : Int) (nm vl : ByteArray) (W : World) : Prop where
  st : SRow 40 W w.heap.size mx v cp
  it : KRow W (w.heap.size + 1) k i nm vl
  below : Below w.heap.size w W
theorem Vh.step {w W W' : World} {mx cp : Int} {v : Value} {k : Nat} {i : Int} {nm vl : ByteArray} (h : Vh w mx cp v k i nm vl W) (hb : Below W.heap.size W W') : Vh w mx cp v k i nm vl W' :=
  ⟨h.st.step hb, h.it.step hb, bs_hd h.below hb⟩
theorem Vh.new (w : World) (mx cp : Int) (v : Value) (k : Nat) (i : Int) (nm vl : ByteArray) : Vh w mx cp v k i nm vl ((w.alloc (.cells #[.int .i64 mx, v, .int .i64 cp] 40)).alloc (.cells #[.int .u8 (k : Int), .int .i64 i, .string nm, .string vl] 42)) :=
  ⟨two0 _ _ _, two1 _ _ _, bs_hd (below_new _) (below_new _)⟩
theorem vh_lt {w W : World} {mx cp : Int} {v : Value} {k : Nat} {i : Int} {nm vl : ByteArray} (h : Vh w mx cp v k i nm vl W) : w.heap.size + 2 ≤ W.heap.size := h.it.lt
/-- A list does not lie where a variable was made. -/
def SepO (ob : Option Addr) (R : List Fld) (f : Option Nat) : Prop := ∀ g, f = some g → ∀ a, ob = some a → R ≠ [] → a.block ≠ g
theorem SepO.mk {oa ob : Option Addr} {R L : List Fld} {f : Option Nat} {z : Obj} {W w : World} (hz : ZO (w.heap.size + 2) z f W) (hp : (ob = oa ∧ R = L) ∨ ∀ a, ob = some a → W.heap.size ≤ a.block) (ho : ∀ a, oa = some a → L ≠ [] → a.block < w.heap.size) : SepO ob R f := fun g hg a ha hne => by
  have h1 := hz g hg
  have h2 : g < W.heap.size := (Array.getElem?_eq_some_iff.1 h1.1).1
  rcases hp with ⟨rfl, rfl⟩ | hp
  · have := ho a ha hne; omega
  · have := hp a ha; omega
theorem SepO.made {ob : Option Addr} {R : List Fld} {W : World} (h : FieldsN W ob R) : SepO ob R (some W.heap.size) := fun g hg a ha hne => by
  injection hg with hg
  subst hg
  cases R with
  | nil => exact absurd rfl hne
  | cons f t =>
    obtain ⟨b, o, e, c, _⟩ := h 0 f rfl
    rw [ha] at e
    injection e with e
    subst e
    exact Nat.ne_of_lt (World.block_lt_of_cell? _ _ c)
/-- The same, cell by cell. -/
abbrev VS (w : World) (mx cp : Int) (v : Value) (k : Nat) (i : Int) (nm vl : ByteArray) (W : World) : Prop :=
  W.cell? ⟨w.heap.size, 0, none⟩ = some (.int .i64 mx) ∧ W.cell? ⟨w.heap.size, 1, none⟩ = some v ∧ W.cell? ⟨w.heap.size, 2, none⟩ = some (.int .i64 cp) ∧ W.cell? ⟨w.heap.size + 1, 0, none⟩ = some (.int .u8 (k : Int)) ∧ W.cell? ⟨w.heap.size + 1, 1, none⟩ = some (.int .i64 i) ∧ W.cell? ⟨w.heap.size + 1, 2, none⟩ = some (.string nm) ∧ W.cell? ⟨w.heap.size + 1, 3, none⟩ = some (.string vl) ∧ Vh w mx cp v k i nm vl W
theorem Vh.vs {w W : World} {mx cp : Int} {v : Value} {k : Nat} {i : Int} {nm vl : ByteArray} (h : Vh w mx cp v k i nm vl W) : VS w mx cp v k i nm vl W :=
  ⟨h.st.c0, h.st.c1, h.st.c2, h.it.c0, h.it.c1, h.it.c2, h.it.c3, h⟩
theorem VS.vh {w W : World} {mx cp : Int} {v : Value} {k : Nat} {i : Int} {nm vl : ByteArray} (h : VS w mx cp v k i nm vl W) : Vh w mx cp v k i nm vl W := h.2.2.2.2.2.2.2
theorem Vh.drew {w W : World} {mx cp : Int} {v : Value} {k : Nat} {i : Int} {nm vl : ByteArray} (h : Vh w mx cp v k i nm vl W) : Vh w mx cp v k i nm vl W.drew := ⟨h.st, h.it, h.below.drew⟩
theorem Vh.setRow {w W : World} {mx cp : Int} {v : Value} {k : Nat} {i : Int} {nm vl : ByteArray} (h : Vh w mx cp v k i nm vl W) {g : Nat} (hg : w.heap.size + 1 < g) (cs : Array Value) : Vh w mx cp v k i nm vl (W.setRow g cs) :=
  ⟨(setRow_other _ _ _ _ (by omega)).trans h.st, (setRow_other _ _ _ _ (by omega)).trans h.it, below_row h.below (by omega) _⟩
theorem sameL_refl : ∀ L : List Fld, sameL L L = true
  | [] => rfl
  | f :: l => by unfold sameL; rw [sameL_refl l]; simp [eqF]
theorem hSt_len (mx cp : Int) (L : List Fld) (x : Itm) : (hSt mx cp L x).2.1.length ≤ L.length + 1 := by
  unfold hSt
  split
  · split
    · simp
    · unfold resL
      simp only
      split
      · omega
      · split
        · omega
        · simp only [List.length_take]; omega
  · split
    · simp
    · split
      · simp
      · split
        · unfold addL
          simp only
          split
          · omega
          · split
            · simp only [List.length_cons, List.length_take]; omega
            · simp only [List.length_take]; omega
        · simp
theorem hStep_len (mx cp : Int) (L : List Fld) (x : Itm) : (hStep mx cp L x).2.1.length ≤ L.length + 1 := by
  unfold hStep
  split
  · simp
  · split
    · simp
    · exact hSt_len mx cp L x
/-- All that the last region looks at. -/
structure Vc (w : World) (mx cp : Int) (oa : Option Addr) (n cap : Nat) (L : List Fld) (k : Nat) (i : Int) (nm vl : ByteArray) (r1 : Int) (r2 : List Fld) (r3 : Fld) (ob : Option Addr) (nb cb : Nat) (od : Option Addr) (nd cd : Nat) (m0 : Int) (g7 g8 g11 g12 g15 g17 : Nat) (W : World) : Prop where
  v : Vh w mx cp (.slice oa n cap) k i nm vl W
  r7 : HRow W g7 r1 (.slice ob nb cb) cp
  f8 : FRow W g8 r3
  r11 : SRow 40 W g11 r1 (.slice od nd cd) cp
  f12 : FRow W g12 r3
  r15 : HRow W g15 m0 (.slice none 0 0) m0
  r17 : SRow 40 W g17 m0 (.slice none 0 0) m0
  fl : FieldsN W oa L
  fb : FieldsN W ob r2
  fd : FieldsN W od r2
theorem Vc.step {w W W' : World} {mx cp r1 m0 i : Int} {oa ob od : Option Addr} {n cap nb cb nd cd k g7 g8 g11 g12 g15 g17 : Nat} {L r2 : List Fld} {r3 : Fld} {nm vl : ByteArray} (h : Vc w mx cp oa n cap L k i nm vl r1 r2 r3 ob nb cb od nd cd m0 g7 g8 g11 g12 g15 g17 W) (hb : Below W.heap.size W W') : Vc w mx cp oa n cap L k i nm vl r1 r2 r3 ob nb cb od nd cd m0 g7 g8 g11 g12 g15 g17 W' :=
  ⟨h.v.step hb, h.r7.step hb, h.f8.step hb, h.r11.step hb, h.f12.step hb, h.r15.step hb, h.r17.step hb, h.fl.below hb, h.fb.below hb, h.fd.below hb⟩
theorem Vc.drew {w W : World} {mx cp r1 m0 i : Int} {oa ob od : Option Addr} {n cap nb cb nd cd k g7 g8 g11 g12 g15 g17 : Nat} {L r2 : List Fld} {r3 : Fld} {nm vl : ByteArray} (h : Vc w mx cp oa n cap L k i nm vl r1 r2 r3 ob nb cb od nd cd m0 g7 g8 g11 g12 g15 g17 W) : Vc w mx cp oa n cap L k i nm vl r1 r2 r3 ob nb cb od nd cd m0 g7 g8 g11 g12 g15 g17 W.drew :=
  ⟨h.v.drew, h.r7, h.f8, h.r11, h.f12, h.r15, h.r17, h.fl, h.fb, h.fd⟩
set_option maxRecDepth 100000 in
set_option maxHeartbeats 8000000 in
theorem hdecSteps_any (mx cp : Int) (oa : Option Addr) (n cap : Nat) (L : List Fld) (hn : L.length = n) (hnc : n ≤ cap) (k : Nat) (i : Int) (nm vl : ByteArray) (m : Int) (w : World) (hf : FieldsN w oa L) (hk : k < 256) (hi : (Lit.int .i64 i).wf = true) :
    Calls Try.prog 4 #[.agg #[.int .i64 mx, .slice oa n cap, .int .i64 cp], .agg #[.int .u8 (k : Int), .int .i64 i, .string nm, .string vl], .int .i64 m] w fun e w' => e = .returned (.bool true) ∧ Below w.heap.size w w' := by
  have HH := Lib.hid (Vh.new w mx cp (.slice oa n cap) k i nm vl)
  have HFW := Lib.hid (show ∀ W, Below w.heap.size w W → FieldsN W oa L from fun W hW => hf.below hW)
  have HLI := Lib.hid (fun W (hW : Below w.heap.size w W) => light6_any mx cp oa n cap L hn W (hf.below hW))
  have HAW := Lib.hid (fun W => awake06_any W)
  by_cases hok : light L = true ∧ nm.size ≤ 200 ∧ vl.size ≤ 200
  · have hl := light.all hok.1
    have hn30 : n ≤ 1000 := by have := light.len hok.1; omega
    have HST := Lib.hid (fun W (hW : Below w.heap.size w W) => hdecStepP_any mx cp oa n cap L hn hnc hl hn30 k hk i nm vl hi (by omega) (by omega) W (hf.below hW))
    have HDS := Lib.hid (fun W (hW : Below w.heap.size w W) => dstep_any mx cp oa n cap L hn hnc hl hn30 k hk i nm vl hi (by omega) (by omega) W (hf.below hW))
    have HOW := Lib.hid (fun W => hown_any mx cp (.slice oa n cap) ⟨oa, n, cap, rfl⟩ W)
    have hlen2 := hStep_len mx cp L ⟨k, i, nm, vl⟩
    have HCH := Lib.hid (fun W (hW : FieldsN W oa L) => hcheck_any mx cp oa n cap L hn hl hn30 W hW)
    have HC6 := Lib.hid (fun W (hW : FieldsN W oa L) => dcheck6_any mx cp oa n cap L hn hl hn30 W hW)
    have HSZ := Lib.hid (fun W (hW : FieldsN W oa L) => hsize_any oa n cap L hn hl hn30 W hW)
    have HSU := Lib.hid (fun W (hW : FieldsN W oa L) => sum_any oa n cap L hn hl hn30 W hW)
    have HN2 := Lib.hid (show (hStep mx cp L ⟨k, i, nm, vl⟩).2.1.length ≤ 1000 by have := light.len hok.1; omega)
    clear hlen2
    rw [hok.1] at HLI
    have q1 : decide ((200 : Int) < (nm.size : Int)) = false := decide_eq_false (by omega)
    have q2 : decide ((200 : Int) < (vl.size : Int)) = false := decide_eq_false (by omega)
    have HN := Lib.hid hn
    have HL := Lib.hid hl
    have HN3 := Lib.hid hn30
    unfold StepPost3 at HST
    unfold StepPost2 at HDS
    have HOA := Lib.hid (show ∀ a, oa = some a → L ≠ [] → a.block < w.heap.size from fun a ha hne => by
      cases L with
      | nil => exact absurd rfl hne
      | cons f t =>
        obtain ⟨b, o, e, c, _⟩ := hf 0 f rfl
        rw [ha] at e
        injection e with e
        subst e
        exact World.block_lt_of_cell? _ _ c)
    clear hok hl hn30 hf hn
    go_enter Try.func4, Try.ntmps4
    go_upto_region 1 with fail
    generalize ((w.alloc (.cells #[.int .i64 mx, .slice oa n cap, .int .i64 cp] 40)).alloc (.cells #[.int .u8 (k : Int), .int .i64 i, .string nm, .string vl] 42)) = w1 at HH ⊢
    have c0 := HH.out.st.c0
    have c1 := HH.out.st.c1
    have c2 := HH.out.st.c2
    have x2 := HH.out.it.c2
    have x3 := HH.out.it.c3
    go_upto_region 3 with (first | (go_at_call 12; refine (HLI.out _ HH.out.below).mono ?_; rintro e w2 ⟨rfl, hb⟩; replace HH := Lib.hid (HH.out.step hb); clear hb; have c0 := HH.out.st.c0; have c1 := HH.out.st.c1; have c2 := HH.out.st.c2; have x2 := HH.out.it.c2; have x3 := HH.out.it.c3))
    clear c0 c1 c2 x2 x3
    generalize hR : hStep mx cp L ⟨k, i, nm, vl⟩ = R at HST HDS HN2
    have HR := Lib.hid hR
    clear hR
    obtain ⟨r1, r2, r3, r4, r5⟩ := R
    dsimp only at HST HDS HN2
    go_cut [7, 8, 9, 10] (fun v7 v8 v9 v10 wx => ∃ (g7 g8 : Nat) (ob : Option Addr) (nb cb : Nat), v7 = .pointer (some ⟨g7, 0, none⟩) ∧ v8 = .pointer (some ⟨g8, 0, none⟩) ∧ v9 = .bool r4 ∧ v10 = .int .i64 r5 ∧ HRow wx g7 r1 (.slice ob nb cb) cp ∧ FRow wx g8 r3 ∧ r2.length = nb ∧ nb ≤ cb ∧ FieldsN wx ob r2 ∧ Vh w mx cp (.slice oa n cap) k i nm vl wx)
    case first =>
      refine wp_region_held_drew (S := Vh w mx cp (.slice oa n cap) k i nm vl) (by kernel_rfl) HH.out.drew (fun hHeld => ?_)
      refine wpAnyH_takeD (i := 0) (v := ?_) (some 36) rfl rfl rfl (by kernel_rfl) (by kernel_rfl) (by kernel_rfl) (fun _ _ _ h => h) ?_ (by assumption) ?_
      rotate_left
      · intro W hW
        obtain ⟨c0, c1, c2, x0, x1, x2, x3, _⟩ := hW.vs
        go_simp
        with_reducible rfl
      try simp only [Act.put, List.setIfInBounds_toArray, List.set_cons_zero, List.set_cons_succ]
      refine wpAnyH_takeD (i := 2) (v := ?_) (some 38) rfl rfl rfl (by kernel_rfl) (by kernel_rfl) (by kernel_rfl) (fun _ _ _ h => h) ?_ (by assumption) ?_
      rotate_left
      · intro W hW
        obtain ⟨c0, c1, c2, x0, x1, x2, x3, _⟩ := hW.vs
        go_simp
        with_reducible rfl
      try simp only [Act.put, List.setIfInBounds_toArray, List.set_cons_zero, List.set_cons_succ]
      refine name_act (fun A hA => ?_)
      have Q0 : Vh w mx cp (.slice oa n cap) k i nm vl w2.drew := hHeld
      clear hHeld HH
      refine (made_step (p := 9) (q := 10) (c := 1) (dp := 7) (dq := 8) (zp := (.cells #[.int .i64 0, .slice none 0 0, .int .i64 0] 45)) (zq := (.cells #[.string ⟨#[]⟩, .string ⟨#[]⟩, .bool false] 25)) ⟨⟨_, rfl, rfl, rfl, fun ρ W => by go_simp⟩⟩ ⟨⟨_, rfl, rfl, rfl, fun ρ W => by go_simp⟩⟩ (J := (fun fp fq a W =>  a = A ∧ Vh w mx cp (.slice oa n cap) k i nm vl W ∧ ZO (w.heap.size + 2) (.cells #[.int .i64 0, .slice none 0 0, .int .i64 0] 45) fp W ∧ ZO (w.heap.size + 2) (.cells #[.string ⟨#[]⟩, .string ⟨#[]⟩, .bool false] 25) fq W)) (J' := (fun fp fq a W =>  a = A.put (some 37) (.agg #[.int .i64 mx, .slice oa n cap, .int .i64 cp]) ∧ Vh w mx cp (.slice oa n cap) k i nm vl W ∧ ZO (w.heap.size + 2) (.cells #[.int .i64 0, .slice none 0 0, .int .i64 0] 45) fp W ∧ ZO (w.heap.size + 2) (.cells #[.string ⟨#[]⟩, .string ⟨#[]⟩, .bool false] 25) fq W)) (L := (fun b b' => #[true, false, true, false, false, false, false, false, false, b, b', false, false, false, false])) (L' := (fun b b' => #[true, true, true, false, false, false, false, false, false, b, b', false, false, false, false]))
        (by intro b; cases b <;> rfl) (by intro b; cases b <;> rfl) (by intro b b'; cases b <;> cases b' <;> rfl) (by kernel_rfl) (by kernel_rfl) (by kernel_rfl) (by kernel_rfl) (by decide) rfl (by kernel_rfl) (by kernel_rfl) (by simp) (by simp) (by simp) (fun d v c a w h => h)
        (fun fq a W h => ⟨h.1, h.2.1.step (below_new _), ZO.made _ (vh_lt h.2.1), h.2.2.2.alloc _⟩) (fun fp a W h => ⟨h.1, h.2.1.step (below_new _), h.2.2.1.alloc _, ZO.made _ (vh_lt h.2.1)⟩) ?_ (fun _ _ _ _ h => h.2.1) (fun _ _ _ _ h => h.2.1) 10 ?_) none none A w2.drew ⟨rfl, Q0, ZO.none _ _ _, ZO.none _ _ _⟩
      · rintro fp fq a W ⟨rfl, hv, hz, hy⟩
        refine wpOp_call (HOW.out W) rfl rfl rfl (by rw [hA]; go_simp) ?_
        rintro e W' ⟨rfl, hb⟩
        exact ⟨_, rfl, rfl, hv.step hb, hz.step hb, hy.step hb⟩
      refine made_step (p := 9) (q := 10) (c := 3) (dp := 7) (dq := 8) (zp := (.cells #[.int .i64 0, .slice none 0 0, .int .i64 0] 45)) (zq := (.cells #[.string ⟨#[]⟩, .string ⟨#[]⟩, .bool false] 25)) ⟨⟨_, rfl, rfl, rfl, fun ρ W => by go_simp⟩⟩ ⟨⟨_, rfl, rfl, rfl, fun ρ W => by go_simp⟩⟩ (J' := (fun fp fq a W => ∃ ob nb cb, a = (A.put (some 37) (.agg #[.int .i64 mx, .slice oa n cap, .int .i64 cp])).put (some 39) (.tuple #[.agg #[.int .i64 r1, .slice ob nb cb, .int .i64 cp], .agg #[.string r3.name, .string r3.value, .bool r3.never], .bool r4, .int .i64 r5]) ∧ r2.length = nb ∧ nb ≤ cb ∧ (FieldsN W ob r2 ∧ SepO ob r2 fp ∧ SepO ob r2 fq) ∧ Vh w mx cp (.slice oa n cap) k i nm vl W ∧ ZO (w.heap.size + 2) (.cells #[.int .i64 0, .slice none 0 0, .int .i64 0] 45) fp W ∧ ZO (w.heap.size + 2) (.cells #[.string ⟨#[]⟩, .string ⟨#[]⟩, .bool false] 25) fq W)) (L := (fun b b' => #[true, true, true, false, false, false, false, false, false, b, b', false, false, false, false])) (L' := (fun b b' => #[true, true, true, true, false, false, false, false, false, b, b', false, false, false, false]))
        (by intro b; cases b <;> rfl) (by intro b; cases b <;> rfl) (by intro b b'; cases b <;> cases b' <;> rfl) (by kernel_rfl) (by kernel_rfl) (by kernel_rfl) (by kernel_rfl) (by decide) rfl (by kernel_rfl) (by kernel_rfl) (by simp) (by simp) (by simp) (fun d v c a w h => h)
        (fun fq a W h => ⟨h.1, h.2.1.step (below_new _), ZO.made _ (vh_lt h.2.1), h.2.2.2.alloc _⟩) (fun fp a W h => ⟨h.1, h.2.1.step (below_new _), h.2.2.1.alloc _, ZO.made _ (vh_lt h.2.1)⟩) ?_ (fun _ _ _ _ h => h.2.1) (fun _ _ _ _ ⟨_, _, _, _, _, _, _, h, _, _⟩ => h) 9 ?_
      · rintro fp fq a W ⟨rfl, hv, hz, hy⟩
        refine wpOp_call (HST.out W hv.below) rfl rfl rfl (by rw [hA]; simp only [Act.put, List.setIfInBounds_toArray, List.set_cons_zero, List.set_cons_succ]; go_simp) ?_
        rintro e W' ⟨ob, nb, cb, rfl, hlen, hcb, hfn, hpos, hb⟩
        exact ⟨_, rfl, ob, nb, cb, rfl, hlen, hcb, ⟨hfn, SepO.mk hz hpos HOA.out, SepO.mk hy hpos HOA.out⟩, hv.step hb, hz.step hb, hy.step hb⟩
      rintro fp fq a W ⟨ob, nb, cb, rfl, hlen, hcb, hfn, hv, hz, hy⟩
      have HLN := Lib.hid (And.intro hlen hcb)
      have q3 : (FieldsN W ob r2 ∧ SepO ob r2 fp ∧ SepO ob r2 fq) ∧ Vh w mx cp (.slice oa n cap) k i nm vl W ∧ ZO (w.heap.size + 2) (.cells #[.int .i64 0, .slice none 0 0, .int .i64 0] 45) fp W ∧ ZO (w.heap.size + 2) (.cells #[.string ⟨#[]⟩, .string ⟨#[]⟩, .bool false] 25) fq W := ⟨hfn, hv, hz, hy⟩
      clear hlen hcb hfn hv hz hy
      revert q3
      revert W
      revert fq
      revert fp
      refine made_take (c := 4) (dp := 7) (dq := 8) (d := 35) (v := (.tuple #[.agg #[.int .i64 r1, .slice ob nb cb, .int .i64 cp], .agg #[.string r3.name, .string r3.value, .bool r3.never], .bool r4, .int .i64 r5])) (J := (fun fp fq W => (FieldsN W ob r2 ∧ SepO ob r2 fp ∧ SepO ob r2 fq) ∧ Vh w mx cp (.slice oa n cap) k i nm vl W ∧ ZO (w.heap.size + 2) (.cells #[.int .i64 0, .slice none 0 0, .int .i64 0] 45) fp W ∧ ZO (w.heap.size + 2) (.cells #[.string ⟨#[]⟩, .string ⟨#[]⟩, .bool false] 25) fq W)) (L := (fun b b' => #[true, true, true, true, false, false, false, false, false, b, b', false, false, false, false])) (L' := (fun b b' => #[true, true, true, true, true, false, false, false, false, b, b', false, false, false, false]))
        (by intro b b'; cases b <;> cases b' <;> rfl) (by intro b b'; cases b <;> cases b' <;> kernel_rfl) (by intro b b'; cases b <;> cases b' <;> kernel_rfl) rfl rfl rfl (by kernel_rfl) (by kernel_rfl) (by decide) (by decide) (by kernel_rfl) (fun c a w h => h) (by intro W _; rw [hA]; simp only [Act.put, List.setIfInBounds_toArray, List.set_cons_zero, List.set_cons_succ]; go_simp) (fun _ _ _ h => h.2.1) 8 ?_
      refine made_take (c := 5) (dp := 7) (dq := 8) (d := 40) (v := (.agg #[.int .i64 r1, .slice ob nb cb, .int .i64 cp])) (J := (fun fp fq W => (FieldsN W ob r2 ∧ SepO ob r2 fp ∧ SepO ob r2 fq) ∧ Vh w mx cp (.slice oa n cap) k i nm vl W ∧ ZO (w.heap.size + 2) (.cells #[.int .i64 0, .slice none 0 0, .int .i64 0] 45) fp W ∧ ZO (w.heap.size + 2) (.cells #[.string ⟨#[]⟩, .string ⟨#[]⟩, .bool false] 25) fq W)) (L := (fun b b' => #[true, true, true, true, true, false, false, false, false, b, b', false, false, false, false])) (L' := (fun b b' => #[true, true, true, true, true, true, false, false, false, b, b', false, false, false, false]))
        (by intro b b'; cases b <;> cases b' <;> rfl) (by intro b b'; cases b <;> cases b' <;> kernel_rfl) (by intro b b'; cases b <;> cases b' <;> kernel_rfl) rfl rfl rfl (by kernel_rfl) (by kernel_rfl) (by decide) (by decide) (by kernel_rfl) (fun c a w h => h) (by intro W _; rw [hA]; simp only [Act.put, List.setIfInBounds_toArray, List.set_cons_zero, List.set_cons_succ]; go_simp) (fun _ _ _ h => h.2.1) 7 ?_
      refine made_take (c := 6) (dp := 7) (dq := 8) (d := 41) (v := (.agg #[.string r3.name, .string r3.value, .bool r3.never])) (J := (fun fp fq W => (FieldsN W ob r2 ∧ SepO ob r2 fp ∧ SepO ob r2 fq) ∧ Vh w mx cp (.slice oa n cap) k i nm vl W ∧ ZO (w.heap.size + 2) (.cells #[.int .i64 0, .slice none 0 0, .int .i64 0] 45) fp W ∧ ZO (w.heap.size + 2) (.cells #[.string ⟨#[]⟩, .string ⟨#[]⟩, .bool false] 25) fq W)) (L := (fun b b' => #[true, true, true, true, true, true, false, false, false, b, b', false, false, false, false])) (L' := (fun b b' => #[true, true, true, true, true, true, true, false, false, b, b', false, false, false, false]))
        (by intro b b'; cases b <;> cases b' <;> rfl) (by intro b b'; cases b <;> cases b' <;> kernel_rfl) (by intro b b'; cases b <;> cases b' <;> kernel_rfl) rfl rfl rfl (by kernel_rfl) (by kernel_rfl) (by decide) (by decide) (by kernel_rfl) (fun c a w h => h) (by intro W _; rw [hA]; simp only [Act.put, List.setIfInBounds_toArray, List.set_cons_zero, List.set_cons_succ]; go_simp) (fun _ _ _ h => h.2.1) 6 ?_
      refine made_take (c := 7) (dp := 7) (dq := 8) (d := 42) (v := (.bool r4)) (J := (fun fp fq W => (FieldsN W ob r2 ∧ SepO ob r2 fp ∧ SepO ob r2 fq) ∧ Vh w mx cp (.slice oa n cap) k i nm vl W ∧ ZO (w.heap.size + 2) (.cells #[.int .i64 0, .slice none 0 0, .int .i64 0] 45) fp W ∧ ZO (w.heap.size + 2) (.cells #[.string ⟨#[]⟩, .string ⟨#[]⟩, .bool false] 25) fq W)) (L := (fun b b' => #[true, true, true, true, true, true, true, false, false, b, b', false, false, false, false])) (L' := (fun b b' => #[true, true, true, true, true, true, true, true, false, b, b', false, false, false, false]))
        (by intro b b'; cases b <;> cases b' <;> rfl) (by intro b b'; cases b <;> cases b' <;> kernel_rfl) (by intro b b'; cases b <;> cases b' <;> kernel_rfl) rfl rfl rfl (by kernel_rfl) (by kernel_rfl) (by decide) (by decide) (by kernel_rfl) (fun c a w h => h) (by intro W _; rw [hA]; simp only [Act.put, List.setIfInBounds_toArray, List.set_cons_zero, List.set_cons_succ]; go_simp) (fun _ _ _ h => h.2.1) 5 ?_
      refine made_take (c := 8) (dp := 7) (dq := 8) (d := 43) (v := (.int .i64 r5)) (J := (fun fp fq W => (FieldsN W ob r2 ∧ SepO ob r2 fp ∧ SepO ob r2 fq) ∧ Vh w mx cp (.slice oa n cap) k i nm vl W ∧ ZO (w.heap.size + 2) (.cells #[.int .i64 0, .slice none 0 0, .int .i64 0] 45) fp W ∧ ZO (w.heap.size + 2) (.cells #[.string ⟨#[]⟩, .string ⟨#[]⟩, .bool false] 25) fq W)) (L := (fun b b' => #[true, true, true, true, true, true, true, true, false, b, b', false, false, false, false])) (L' := (fun b b' => #[true, true, true, true, true, true, true, true, true, b, b', false, false, false, false]))
        (by intro b b'; cases b <;> cases b' <;> rfl) (by intro b b'; cases b <;> cases b' <;> kernel_rfl) (by intro b b'; cases b <;> cases b' <;> kernel_rfl) rfl rfl rfl (by kernel_rfl) (by kernel_rfl) (by decide) (by decide) (by kernel_rfl) (fun c a w h => h) (by intro W _; rw [hA]; simp only [Act.put, List.setIfInBounds_toArray, List.set_cons_zero, List.set_cons_succ]; go_simp) (fun _ _ _ h => h.2.1) 4 ?_
      refine made_last (p := 9) (q := 10) (dp := 7) (dq := 8) (zp := (.cells #[.int .i64 0, .slice none 0 0, .int .i64 0] 45)) (zq := (.cells #[.string ⟨#[]⟩, .string ⟨#[]⟩, .bool false] 25)) ⟨⟨_, rfl, rfl, rfl, fun ρ W => by go_simp⟩⟩ ⟨⟨_, rfl, rfl, rfl, fun ρ W => by go_simp⟩⟩ (L := (fun b b' => #[true, true, true, true, true, true, true, true, true, b, b', false, false, false, false])) (by intro b; cases b <;> rfl) (by intro b; cases b <;> rfl) (by kernel_rfl) (by kernel_rfl) (by kernel_rfl) (by decide)
        (fun fq W h => ⟨⟨h.1.1.below (below_new _), SepO.made h.1.1, h.1.2.2⟩, h.2.1.step (below_new _), ZO.made _ (vh_lt h.2.1), h.2.2.2.alloc _⟩) (fun fp W h => ⟨⟨h.1.1.below (below_new _), h.1.2.1, SepO.made h.1.1⟩, h.2.1.step (below_new _), h.2.2.1.alloc _, ZO.made _ (vh_lt h.2.1)⟩) (fun _ _ _ h => h.2.1) 4 ?_
      rintro g7 g8 W ⟨⟨hfn, hs7, hs8⟩, hv, hz, hy⟩
      have HS78 := Lib.hid (And.intro (hs7 g7 rfl) (hs8 g8 rfl))
      clear hs7 hs8
      have Z7 := hz g7 rfl
      have Z8 := hy g8 rfl
      have H7 := Lib.hid Z7.1
      have H8 := Lib.hid Z8.1
      have HG := Lib.hid (And.intro Z7.2 Z8.2)
      have HNE := Lib.hid (show g7 ≠ g8 from fun e => by have h1 := Z7.1; have h2 := Z8.1; rw [e] at h1; rw [h1] at h2; injection h2 with h2; injection h2 with h2 _ _; injection h2 with h2; cases h2)
      have HFN := Lib.hid hfn
      have HV := Lib.hid hv
      clear hz hy hfn hv Z7 Z8
      have hb7 := HG.out.1
      have hb8 := HG.out.2
      simp only [putO, hA, Act.put, List.setIfInBounds_toArray, List.set_cons_zero, List.set_cons_succ]
      clear hA
      have HR7 := Lib.hid (setRow_heap W g7 _ #[.int .i64 r1, .slice ob nb cb, .int .i64 cp] _ _ H7.out)
      have HF8 := Lib.hid ((setRow_other W g7 g8 #[.int .i64 r1, .slice ob nb cb, .int .i64 cp] HNE.out.symm).trans H8.out)
      refine wpAnyH_store (i := 11) (by kernel_rfl) rfl rfl rfl _ _ _ rfl g7 #[.int .i64 r1, .slice ob nb cb, .int .i64 cp] rfl rfl 45 _ H7.out (by kernel_rfl) rfl (by kernel_rfl) (HV.out.setRow (by omega) _) (fun hHeld => ?_)
      refine wpAnyH_store (i := 12) (by kernel_rfl) rfl rfl rfl _ _ _ rfl g8 #[.string r3.name, .string r3.value, .bool r3.never] rfl rfl 25 _ HF8.out (by kernel_rfl) rfl (by kernel_rfl) (hHeld.setRow (by omega) _) (fun hHeld => ?_)
      refine wpAnyH_takeD (i := 13) (v := ?_) (some 9) rfl rfl rfl (by kernel_rfl) (by kernel_rfl) (by kernel_rfl) (fun _ _ _ h => h) ?_ (by assumption) ?_
      rotate_left
      · intro W hW
        go_simp
        with_reducible rfl
      try simp only [Act.put, List.setIfInBounds_toArray, List.set_cons_zero, List.set_cons_succ]
      refine wpAnyH_takeD (i := 14) (v := ?_) (some 10) rfl rfl rfl (by kernel_rfl) (by kernel_rfl) (by kernel_rfl) (fun _ _ _ h => h) ?_ (by assumption) ?_
      rotate_left
      · intro W hW
        go_simp
        with_reducible rfl
      try simp only [Act.put, List.setIfInBounds_toArray, List.set_cons_zero, List.set_cons_succ]
      refine wpAnyH_done (by kernel_rfl) ?_ _
      have HVV := Lib.hid hHeld
      clear hHeld hb7 hb8
      go_wp2_with fail
      go_meet
      exact ⟨g7, g8, ob, nb, cb, rfl, rfl, rfl, rfl, (setRow_other _ _ _ _ HNE.out).trans HR7.out, setRow_heap _ _ _ _ _ _ HF8.out, HLN.out.1, HLN.out.2, (HFN.out.setRow (fun hne a ha => HS78.out.1 a ha hne) _).setRow (fun hne a ha => HS78.out.2 a ha hne) _, HVV.out⟩
    case rest =>
      obtain ⟨g7, g8, ob, nb, cb, rfl, rfl, rfl, rfl, h7, h8, hlen, hcb, hfb, hv⟩ := hcut
      have H7 := Lib.hid h7
      have H8 := Lib.hid h8
      have HLB := Lib.hid (And.intro hlen hcb)
      have HFB := Lib.hid hfb
      have HV := Lib.hid hv
      clear h7 h8 hlen hcb hfb hv HH HST HOA
      obtain ⟨c0, c1, c2, x0, x1, x2, x3, _⟩ := HV.out.vs
      go_upto_region 5 with (first | (go_at_call 16; refine (HDS.out _ HV.out.below).mono ?_; rintro e w5 ⟨od, nd, cd, rfl, hlen, hcd, hfd, hb⟩; have HLD := Lib.hid (And.intro hlen hcd); have HFD := Lib.hid hfd; have HB5 := Lib.hid hb; clear hlen hcd hfd hb))
      clear c0 c1 c2 x0 x1 x2 x3
      have HB6 := Lib.hid (show Below w5.heap.size w5 ((w5.alloc (.cells #[.int .i64 r1, .slice od nd cd, .int .i64 cp] 40)).alloc (.cells #[.string r3.name, .string r3.value, .bool r3.never] 25)) from bs_hd (below_new _) (below_new _))
      have H11 := Lib.hid (show SRow 40 ((w5.alloc (.cells #[.int .i64 r1, .slice od nd cd, .int .i64 cp] 40)).alloc (.cells #[.string r3.name, .string r3.value, .bool r3.never] 25)) w5.heap.size r1 (.slice od nd cd) cp from two0 _ _ _)
      have H12 := Lib.hid (show FRow ((w5.alloc (.cells #[.int .i64 r1, .slice od nd cd, .int .i64 cp] 40)).alloc (.cells #[.string r3.name, .string r3.value, .bool r3.never] 25)) (w5.heap.size + 1) r3 from two1 _ _ _)
      have HB7 := Lib.hid (bs_hd HB5.out HB6.out)
      replace H7 := Lib.hid (H7.out.step HB7.out)
      replace H8 := Lib.hid (H8.out.step HB7.out)
      replace HFB := Lib.hid (HFB.out.below HB7.out)
      replace HV := Lib.hid (HV.out.step HB7.out)
      replace HFD := Lib.hid (HFD.out.below HB6.out)
      clear HB5 HB6 HB7 HDS
      generalize ((w5.alloc (.cells #[.int .i64 r1, .slice od nd cd, .int .i64 cp] 40)).alloc (.cells #[.string r3.name, .string r3.value, .bool r3.never] 25)) = w6 at H7 H8 H11 H12 HFB HFD HV ⊢
      generalize w5.heap.size = g11 at H11 H12 ⊢
      have HNA := Lib.hid (fun W => hnew_any m W)
      have HNB := Lib.hid (fun W => dnew_any m W)
      unfold NewPost at HNA HNB
      generalize newM m = m0 at HNA HNB
      generalize newE m = e0 at HNA HNB
      go_upto_region 6 with (first | (go_at_call 17; refine (HNA.out _).mono ?_; rintro e w7 ⟨rfl, hb⟩; have HB7 := Lib.hid (bs_hd hb (below_new (.cells #[.int .i64 m0, .slice none 0 0, .int .i64 m0] 45))); clear hb))
      have H15 := Lib.hid (HRow.new w7 m0 m0 (.slice none 0 0))
      replace H7 := Lib.hid (H7.out.step HB7.out)
      replace H8 := Lib.hid (H8.out.step HB7.out)
      replace H11 := Lib.hid (H11.out.step HB7.out)
      replace H12 := Lib.hid (H12.out.step HB7.out)
      replace HFB := Lib.hid (HFB.out.below HB7.out)
      replace HFD := Lib.hid (HFD.out.below HB7.out)
      replace HV := Lib.hid (HV.out.step HB7.out)
      clear HB7
      generalize w7.alloc (.cells #[.int .i64 m0, .slice none 0 0, .int .i64 m0] 45) = w8 at H7 H8 H11 H12 H15 HFB HFD HV ⊢
      generalize w7.heap.size = g15 at H15 ⊢
      go_upto_region 7 with (first | (go_at_call 18; refine (HNB.out _).mono ?_; rintro e w9 ⟨rfl, hb⟩; have HB9 := Lib.hid (bs_hd hb (below_new (.cells #[.int .i64 m0, .slice none 0 0, .int .i64 m0] 40))); clear hb))
      have HC := Lib.hid (show Vc w mx cp oa n cap L k i nm vl r1 r2 r3 ob nb cb od nd cd m0 g7 g8 g11 (g11 + 1) g15 w9.heap.size (w9.alloc (.cells #[.int .i64 m0, .slice none 0 0, .int .i64 m0] 40)) from
        ⟨HV.out.step HB9.out, H7.out.step HB9.out, H8.out.step HB9.out, H11.out.step HB9.out, H12.out.step HB9.out, H15.out.step HB9.out, SRow.new _ _ _ _ _, HFW.out _ (HV.out.step HB9.out).below, HFB.out.below HB9.out, HFD.out.below HB9.out⟩)
      clear H7 H8 H11 H12 H15 HFB HFD HV HB9 HFW
      generalize w9.alloc (.cells #[.int .i64 m0, .slice none 0 0, .int .i64 m0] 40) = w10 at HC ⊢
      generalize w9.heap.size = g17 at HC ⊢
      generalize g11 + 1 = g12 at HC ⊢
      have HSA := Lib.hid (sameL_refl r2)
      have HS0 := Lib.hid (sameL_refl ([] : List Fld))
      obtain ⟨bX, hX⟩ : ∃ b, (decide (cp = cp) && (decide (mx = r1) && sameL L r2)) = b := ⟨_, rfl⟩
      have HX := Lib.hid hX
      clear hX
      have HS1 := Lib.hid (show ∀ W, FieldsN W ob r2 → FieldsN W od r2 → Calls Try.prog 19 #[.agg #[.int .i64 r1, .slice ob nb cb, .int .i64 cp], .agg #[.int .i64 r1, .slice od nd cd, .int .i64 cp]] W fun e w' => e = .returned (.bool true) ∧ Below W.heap.size W w' from fun W h1 h2 => (dsame6_any r1 r1 cp cp ob od nb nd cb cd r2 r2 HLB.out.1 HLD.out.1 (HLB.out.1 ▸ HN2.out) (HLD.out.1 ▸ HN2.out) W h1 h2).mono (by rintro e w' ⟨rfl, hb⟩; exact ⟨by simp [HSA.out], hb⟩))
      have HS2 := Lib.hid (show ∀ W, True → True → Calls Try.prog 19 #[.agg #[.int .i64 m0, .slice none 0 0, .int .i64 m0], .agg #[.int .i64 m0, .slice none 0 0, .int .i64 m0]] W fun e w' => e = .returned (.bool true) ∧ Below W.heap.size W w' from fun W h1 h2 => (dsame6_any m0 m0 m0 m0 none none 0 0 0 0 [] [] rfl rfl (by omega) (by omega) W (FieldsN.nil _ _) (FieldsN.nil _ _)).mono (by rintro e w' ⟨rfl, hb⟩; exact ⟨by simp [HS0.out], hb⟩))
      have HS3 := Lib.hid (show ∀ W, FieldsN W oa L → FieldsN W od r2 → Calls Try.prog 19 #[.agg #[.int .i64 mx, .slice oa n cap, .int .i64 cp], .agg #[.int .i64 r1, .slice od nd cd, .int .i64 cp]] W fun e w' => e = .returned (.bool bX) ∧ Below W.heap.size W w' from fun W h1 h2 => (dsame6_any mx r1 cp cp oa od n nd cap cd L r2 HN.out HLD.out.1 HN3.out (HLD.out.1 ▸ HN2.out) W h1 h2).mono (by rintro e w' ⟨rfl, hb⟩; exact ⟨by rw [HX.out], hb⟩))
      have HS4 := Lib.hid (show ∀ W, FieldsN W oa L → FieldsN W od r2 → Calls Try.prog 23 #[.agg #[.int .i64 mx, .slice oa n cap, .int .i64 cp], .agg #[.int .i64 r1, .slice od nd cd, .int .i64 cp]] W fun e w' => e = .returned (.bool bX) ∧ Below W.heap.size W w' from fun W h1 h2 => (hsame_any mx r1 cp cp oa od n nd cap cd L r2 HN.out HLD.out.1 HN3.out (HLD.out.1 ▸ HN2.out) W h1 h2).mono (by rintro e w' ⟨rfl, hb⟩; exact ⟨by rw [HX.out], hb⟩))
      generalize hchk mx cp L = hk0 at HCH HC6
      generalize ((sumF L : Nat) : Int) = sm0 at HSZ HSU
      refine class_region (C := Vc w mx cp oa n cap L k i nm vl r1 r2 r3 ob nb cb od nd cd m0 g7 g8 g11 g12 g15 g17) (by kernel_rfl) (by kernel_rfl) HC.out.drew ?_
      clear HC HLI HNA HNB HR
      repeat
        first
          | (with_reducible refine q_plainE rfl rfl ?_)
          | (with_reducible refine q_yesE 62 rfl (by kernel_rfl) (by kernel_rfl) rfl ?_)
        apply Exists.intro
        with_reducible refine ⟨?_, ?_⟩
        · intro W hW
          unfold QAt
          first
            | (go_simp; done)
            | (go_simp; with_reducible rfl)
            | (obtain ⟨a0, a1, a2, b0, b1, b2, b3, _⟩ := hW.v.vs
               have d0 := hW.r7.c0
               have d1 := hW.r7.c1
               have d2 := hW.r7.c2
               have f0 := hW.f8.c0
               have f1 := hW.f8.c1
               have f2 := hW.f8.c2
               have h0 := hW.r11.c0
               have h1 := hW.r11.c1
               have h2 := hW.r11.c2
               have j0 := hW.f12.c0
               have j1 := hW.f12.c1
               have j2 := hW.f12.c2
               have l0 := hW.r15.c0
               have l1 := hW.r15.c1
               have l2 := hW.r15.c2
               have p0 := hW.r17.c0
               have p1 := hW.r17.c1
               have p2 := hW.r17.c2
               first | (go_simp; done) | go_simp
               first
                 | done
                 | (with_reducible rfl)
                 | (go_at_call 20; refine (hback_any _ _ _ ⟨_, _, _, rfl⟩ _).mono ?_; rintro e w11 ⟨rfl, hb⟩; exact ⟨rfl, hW.step hb⟩)
                 | (go_at_call 15; refine (hown_any _ _ _ ⟨_, _, _, rfl⟩ _).mono ?_; rintro e w11 ⟨rfl, hb⟩; exact ⟨rfl, hW.step hb⟩)
                 | (go_at_call 19; with_reducible refine (HS1.out _ hW.fb hW.fd).mono ?_; rintro e w11 ⟨rfl, hb⟩; exact ⟨rfl, hW.step hb⟩)
                 | (go_at_call 19; with_reducible refine (HS2.out _ trivial trivial).mono ?_; rintro e w11 ⟨rfl, hb⟩; exact ⟨rfl, hW.step hb⟩)
                 | (go_at_call 19; with_reducible refine (HS3.out _ hW.fl hW.fd).mono ?_; rintro e w11 ⟨rfl, hb⟩; exact ⟨rfl, hW.step hb⟩)
                 | (go_at_call 23; with_reducible refine (HS4.out _ hW.fl hW.fd).mono ?_; rintro e w11 ⟨rfl, hb⟩; exact ⟨rfl, hW.step hb⟩)
                 | (go_at_call 21; with_reducible refine (HCH.out _ hW.fl).mono ?_; rintro e w11 ⟨rfl, hb⟩; exact ⟨rfl, hW.step hb⟩)
                 | (go_at_call 22; with_reducible refine (HC6.out _ hW.fl).mono ?_; rintro e w11 ⟨rfl, hb⟩; exact ⟨rfl, hW.step hb⟩)
                 | (go_at_call 24; with_reducible refine (HSZ.out _ hW.fl).mono ?_; rintro e w11 ⟨rfl, hb⟩; exact ⟨rfl, hW.step hb⟩)
                 | (go_at_call 25; with_reducible refine (HSU.out _ hW.fl).mono ?_; rintro e w11 ⟨rfl, hb⟩; exact ⟨rfl, hW.step hb⟩)
                 | (go_at_call 13; with_reducible refine (HAW.out _).mono ?_; rintro e w11 ⟨rfl, hb⟩; exact ⟨rfl, hW.step hb⟩))
        apply Exists.intro
        with_reducible refine ⟨?_, ?_⟩
        · simp only [Act.put, List.setIfInBounds_toArray, List.set_cons_zero, List.set_cons_succ]
          exact isAct_rfl _
      with_reducible refine qrest_nil ?_
      intro w' hw'
      go_wp2_with fail
      go_ret
      exact ⟨rfl, hw'.v.below⟩
  · have hor : light L = false ∨ (light L = true ∧ 200 < nm.size) ∨ (light L = true ∧ nm.size ≤ 200 ∧ 200 < vl.size) := by
      by_cases hl : light L = true
      · by_cases h : 200 < nm.size
        · exact .inr (.inl ⟨hl, h⟩)
        · exact .inr (.inr ⟨hl, by omega, by
            by_cases h2 : 200 < vl.size
            · exact h2
            · exact absurd ⟨hl, by omega, by omega⟩ hok⟩)
      · exact .inl (by simpa using hl)
    clear hok hf hn
    rcases hor with h1 | ⟨h1, h2⟩ | ⟨h1, h2, h3⟩
    · rw [h1] at HLI
      clear h1
      go_enter Try.func4, Try.ntmps4
      go_upto_region 1 with fail
      generalize ((w.alloc (.cells #[.int .i64 mx, .slice oa n cap, .int .i64 cp] 40)).alloc (.cells #[.int .u8 (k : Int), .int .i64 i, .string nm, .string vl] 42)) = w1 at HH ⊢
      have c0 := HH.out.st.c0
      have c1 := HH.out.st.c1
      have c2 := HH.out.st.c2
      have x2 := HH.out.it.c2
      have x3 := HH.out.it.c3
      go_wp2_with (first | (go_at_call 12; refine (HLI.out _ HH.out.below).mono ?_; rintro e w2 ⟨rfl, hb⟩; replace HH := Lib.hid (HH.out.step hb); clear hb; have x2 := HH.out.it.c2; have x3 := HH.out.it.c3) | (go_at_call 13; refine (HAW.out _).mono ?_; rintro e w3 ⟨rfl, hb⟩; replace HH := Lib.hid (HH.out.step hb); clear hb))
      go_ret
      exact ⟨rfl, HH.out.below⟩
    · rw [h1] at HLI
      have q1 : decide ((200 : Int) < (nm.size : Int)) = true := decide_eq_true (by omega)
      clear h1 h2
      go_enter Try.func4, Try.ntmps4
      go_upto_region 1 with fail
      generalize ((w.alloc (.cells #[.int .i64 mx, .slice oa n cap, .int .i64 cp] 40)).alloc (.cells #[.int .u8 (k : Int), .int .i64 i, .string nm, .string vl] 42)) = w1 at HH ⊢
      have c0 := HH.out.st.c0
      have c1 := HH.out.st.c1
      have c2 := HH.out.st.c2
      have x2 := HH.out.it.c2
      have x3 := HH.out.it.c3
      go_wp2_with (first | (go_at_call 12; refine (HLI.out _ HH.out.below).mono ?_; rintro e w2 ⟨rfl, hb⟩; replace HH := Lib.hid (HH.out.step hb); clear hb; have x2 := HH.out.it.c2; have x3 := HH.out.it.c3) | (go_at_call 13; refine (HAW.out _).mono ?_; rintro e w3 ⟨rfl, hb⟩; replace HH := Lib.hid (HH.out.step hb); clear hb))
      go_ret
      exact ⟨rfl, HH.out.below⟩
    · rw [h1] at HLI
      have q1 : decide ((200 : Int) < (nm.size : Int)) = false := decide_eq_false (by omega)
      have q2 : decide ((200 : Int) < (vl.size : Int)) = true := decide_eq_true (by omega)
      clear h1 h2 h3
      go_enter Try.func4, Try.ntmps4
      go_upto_region 1 with fail
      generalize ((w.alloc (.cells #[.int .i64 mx, .slice oa n cap, .int .i64 cp] 40)).alloc (.cells #[.int .u8 (k : Int), .int .i64 i, .string nm, .string vl] 42)) = w1 at HH ⊢
      have c0 := HH.out.st.c0
      have c1 := HH.out.st.c1
      have c2 := HH.out.st.c2
      have x2 := HH.out.it.c2
      have x3 := HH.out.it.c3
      go_wp2_with (first | (go_at_call 12; refine (HLI.out _ HH.out.below).mono ?_; rintro e w2 ⟨rfl, hb⟩; replace HH := Lib.hid (HH.out.step hb); clear hb; have x2 := HH.out.it.c2; have x3 := HH.out.it.c3) | (go_at_call 13; refine (HAW.out _).mono ?_; rintro e w3 ⟨rfl, hb⟩; replace HH := Lib.hid (HH.out.step hb); clear hb))
      go_ret
      exact ⟨rfl, HH.out.below⟩
end Go.Proofs.Yteceinojmdgmeaa

