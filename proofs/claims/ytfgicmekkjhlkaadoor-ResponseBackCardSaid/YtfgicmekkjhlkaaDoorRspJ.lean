/- response.Whole; footmanlaw18.awake's calls. -/
import Derived.Test.YtfgicmekkjhlkaaDoorRspI
import Derived.Lib.SlBytesConst
namespace Go.Proofs.YtfgicmekkjhlkaaDoor
open Go.RowKit
set_option linter.unusedVariables false
set_option linter.unusedSimpArgs false

theorem bodyI_byte (f n : Int) : ∀ x ∈ bodyI f n, x < 256 := by
  intro x hx
  unfold bodyI at hx
  split at hx
  · simp at hx
  · exact bodyL_byte _ _ x hx
theorem getD_all {l : List Nat} (h : ∀ x ∈ l, x < 256) : ∀ i, i < l.length → l.getD i 0 < 256 := fun i hi => by
  rw [List.getD_eq_getElem?_getD, List.getElem?_eq_getElem hi]
  exact h _ (List.getElem_mem hi)
def wholeB (bs : List Nat) (f : Int) : Bool := (bsB (bodyI f bs.length)).toList == (bsB bs).toList
set_option maxRecDepth 100000 in
set_option maxHeartbeats 1000000 in
theorem whole_any (oa : Option Addr) (n cap : Nat) (bs : List Nat) (f : Int) (hn : bs.length = n) (hb256 : ∀ x ∈ bs, x < 256) (w : World) (hby : BytesN w oa bs) :
    Calls Tryd.prog 24 #[.slice oa n cap, .int .i64 f] w fun e w' => e = .returned (.bool (wholeB bs f)) ∧ Below w.heap.size w w' := by
  have HB := Lib.hid (fun W => body_any f (n : Int) W)
  unfold BodyPost at HB
  have HE := Lib.hid (show wholeB bs f = ((bsB (bodyI f n)).toList == (bsB bs).toList) from by unfold wholeB; rw [hn])
  have HCV := Lib.hid (show ∀ W, Below w.heap.size w W → (convert 42 9 (.slice oa n cap)).run Tryd.prog W = .ok (.string (bsB bs)) W from fun W hW => conv_bytes W oa n cap bs hn (hby.below hW) (getD_all hb256))
  have HBB := Lib.hid (bodyI_byte f n)
  generalize bodyI f (n : Int) = V at HB HE HBB
  generalize bsB bs = S at HE HCV
  clear hn hb256 hby
  go_enter Tryd.func24, Tryd.ntmps24
  go_wp2_with fail
  have HF := Lib.hid (show ∀ W, Below w.heap.size w W → (Below w.heap.size w W ∧ (convert 42 9 (.slice oa n cap)).run Tryd.prog W = .ok (.string S) W) from fun W hW => ⟨hW, HCV.out W hW⟩)
  have H0 := Lib.hid (HF.out w.drew (Below.refl _ _).drew)
  clear HCV
  go_region_held (fun W => Below w.heap.size w W ∧ (convert 42 9 (.slice oa n cap)).run Tryd.prog W = .ok (.string S) W) (first | exact HBN | exact H0.out) (first
    | (go_at_call 22; refine (HB.out _).mono ?_; rintro e w' ⟨ob, cb, rfl, hbv, _, _, hb⟩; have HBN := HF.out _ (bs_step hb (by assumption)); have hcv := conv_bytes w' ob _ cb V rfl hbv (getD_all HBB.out)))
  all_goals
    go_wp2_with fail
    go_ret
    exact ⟨by rw [HE.out]; rfl, HBN.1⟩
theorem dd503 : decS 503 = ⟨#[53, 48, 51]⟩ := by simp [decS, Lib.decDigits]
theorem dd0 : decS 0 = ⟨#[48]⟩ := by simp [decS, Lib.decDigits]
theorem dd2 : decS 2 = ⟨#[50]⟩ := by simp [decS, Lib.decDigits]
def LF : List Fld := [⟨stS, ⟨#[53, 48, 51]⟩, false⟩, ⟨clS, ⟨#[48]⟩, false⟩, ⟨raS, ⟨#[50]⟩, false⟩]
theorem lf_eq : fieldsR 503 0 2 = LF := by
  show [⟨stS, decS 503, false⟩, ⟨clS, decS 0, false⟩, ⟨raS, decS 2, false⟩] = LF
  rw [dd503, dd0, dd2]; rfl
set_option maxRecDepth 100000 in
theorem lf_read : readR LF = ((503, 0, 2), true) := by decide +kernel
theorem e503 : respE 503 0 2 = 0 := by decide +kernel
theorem e99 : respE 99 0 0 = 8 := by decide +kernel
theorem fields_503 (w : World) (hT : Tab w) : Calls Tryd.prog 11 #[.agg #[.int .i64 503, .int .i64 0, .int .i64 2]] w fun e w' => ∃ oa cap, e = .returned (.tuple #[.slice oa 3 cap, .int .i64 0]) ∧ FieldsN w' oa LF ∧ 3 ≤ cap ∧ Below w.heap.size w w' :=
  (fields_any 503 0 2 w hT).mono (by
    rintro e w' (⟨h, _⟩ | ⟨_, v, rfl, ho, hb⟩)
    · exact absurd e503 h
    · have ho' : OwnF w' w.heap.size v LF := by
        rw [← lf_eq]; exact ho
      obtain ⟨oa, cap, rfl, hf, hc, _⟩ := ho'.form
      exact ⟨oa, cap, rfl, hf, hc, hb⟩)
theorem fields_99 (w : World) (hT : Tab w) : Calls Tryd.prog 11 #[.agg #[.int .i64 99, .int .i64 0, .int .i64 0]] w fun e w' => e = .returned (.tuple #[.slice none 0 0, .int .i64 8]) ∧ Below w.heap.size w w' :=
  (fields_any 99 0 0 w hT).mono (by
    rintro e w' (⟨_, rfl, hb⟩ | ⟨h, _⟩)
    · exact ⟨rfl, hb⟩
    · rw [e99] at h; cases h)
theorem lf_small : ∀ f ∈ LF, f.value.size ≤ maxLen := by
  intro f hf
  have : f.value.size ≤ 3 := by
    simp only [LF, List.mem_cons, List.not_mem_nil, or_false] at hf
    rcases hf with rfl | rfl | rfl <;> decide
  unfold maxLen
  omega
theorem read_503 (oa : Option Addr) (cap : Nat) (hc : 3 ≤ cap) (w : World) (hf : FieldsN w oa LF) : Calls Tryd.prog 20 #[.slice oa 3 cap] w fun e w' => e = .returned (.tuple #[.agg #[.int .i64 503, .int .i64 0, .int .i64 2], .bool true]) ∧ Below w.heap.size w w' :=
  (read_any oa 3 cap LF rfl hc (by omega) lf_small w hf).mono (by
    rintro e w' ⟨rfl, hb⟩
    rw [lf_read]
    exact ⟨rfl, hb⟩)
theorem read_nil (w : World) : Calls Tryd.prog 20 #[.slice none 0 0] w fun e w' => e = .returned (.tuple #[.agg #[.int .i64 0, .int .i64 0, .int .i64 0], .bool false]) ∧ Below w.heap.size w w' :=
  (read_any none 0 0 [] rfl (Nat.le_refl _) (by omega) (fun f hf => by simp at hf) w (fun i f hf => by simp at hf)).mono (by
    rintro e w' ⟨rfl, hb⟩
    exact ⟨rfl, hb⟩)
theorem b25 : bodyI 25 3 = [122, 97, 98] := by decide +kernel
theorem body_25 (w : World) : Calls Tryd.prog 22 #[.int .i64 25, .int .i64 3] w fun e w' => ∃ v, e = .returned v ∧ (∀ W, Below w'.heap.size w' W → (convert 42 9 v).run Tryd.prog W = .ok (.string ⟨#[122, 97, 98]⟩) W) ∧ Below w.heap.size w w' :=
  (body_any 25 3 w).mono (by
    rintro e w' ⟨oa, cap, rfl, hby, _, _, hb⟩
    rw [b25] at hby ⊢
    refine ⟨_, rfl, fun W hW => ?_, hb⟩
    exact conv_bytes W oa 3 cap [122, 97, 98] rfl (hby.below hW) (by decide))
theorem bytes_new2 (w : World) (a b : Nat) : BytesN (w.alloc (.cells #[.int .u8 (a : Int), .int .u8 (b : Int)] 5)) (some ⟨w.heap.size, 0, none⟩) [a, b] := fun i hi => by
  have : i = 0 ∨ i = 1 := by simp at hi; omega
  rcases this with rfl | rfl
  · exact ⟨_, rfl, cells_new w [Value.int .u8 (a : Int), .int .u8 (b : Int)] _ 0 _ rfl⟩
  · exact ⟨_, rfl, cells_new w [Value.int .u8 (a : Int), .int .u8 (b : Int)] _ 1 _ rfl⟩
theorem marked2 (w : World) (a b : Nat) : BytesN (w.alloc (.cells #[.int .u8 (a : Int), .int .u8 (b : Int)] 5 (2, 3))) (some ⟨w.heap.size, 0, none⟩) [a, b] := fun i hi => by
  have : i = 0 ∨ i = 1 := by simp at hi; omega
  have h := heap_alloc_new w (.cells #[.int .u8 (a : Int), .int .u8 (b : Int)] 5 (2, 3))
  rcases this with rfl | rfl
  · exact ⟨_, rfl, cell_of_row _ _ 0 _ _ _ h⟩
  · refine ⟨_, rfl, ?_⟩
    rw [Addr.add_lit]
    exact cell_of_row _ _ 1 _ _ _ h
theorem wh_bc : wholeB [98, 99] 27 = true := by decide +kernel
theorem wh_bd : wholeB [98, 100] 27 = false := by decide +kernel
theorem whole_bc (oa : Option Addr) (cap : Nat) (w : World) (h : BytesN w oa [98, 99]) : Calls Tryd.prog 24 #[.slice oa 2 cap, .int .i64 27] w fun e w' => e = .returned (.bool true) ∧ Below w.heap.size w w' :=
  (whole_any oa 2 cap [98, 99] 27 rfl (by decide) w h).mono (by
    rintro e w' ⟨rfl, hb⟩
    rw [wh_bc]
    exact ⟨rfl, hb⟩)
theorem whole_bd (oa : Option Addr) (cap : Nat) (w : World) (h : BytesN w oa [98, 100]) : Calls Tryd.prog 24 #[.slice oa 2 cap, .int .i64 27] w fun e w' => e = .returned (.bool false) ∧ Below w.heap.size w w' :=
  (whole_any oa 2 cap [98, 100] 27 rfl (by decide) w h).mono (by
    rintro e w' ⟨rfl, hb⟩
    rw [wh_bd]
    exact ⟨rfl, hb⟩)
theorem wait_11 (w : World) : Calls Tryd.prog 16 #[.int .i64 11, .int .i64 10] w fun e w' => e = .returned (.int .i64 2) ∧ w' = w := wait_any 11 10 (by decide) (by decide) w
theorem wait_0 (w : World) : Calls Tryd.prog 16 #[.int .i64 0, .int .i64 10] w fun e w' => e = .returned (.int .i64 0) ∧ w' = w := wait_any 0 10 (by decide) (by decide) w
theorem check_503 (w : World) : Calls Tryd.prog 14 #[.agg #[.int .i64 503, .int .i64 0, .int .i64 2]] w fun e w' => e = .returned (.int .i64 0) ∧ Below w.heap.size w w' := check_any 503 0 2 w
set_option maxRecDepth 100000 in
set_option maxHeartbeats 4000000 in
theorem awake18_any (w : World) (hT : Tab w) : Calls Tryd.prog 18 #[] w fun e w' => e = .returned (.bool true) ∧ Below w.heap.size w w' := by
  have HT := Lib.hid hT
  clear hT
  go_enter Tryd.func18, Tryd.ntmps18
  go_wp2_with fail
  refine (fields_503 _ HT.out).mono ?_
  rintro e w1 ⟨oa, cap, rfl, hf, hc, hb⟩
  have HF1 := Lib.hid hf
  have HB1 := Lib.hid hb
  clear hf hb
  go_wp2_with fail
  refine (read_503 _ _ hc _ HF1.out).mono ?_
  rintro e w2 ⟨rfl, hb⟩
  have HF2 := Lib.hid (HF1.out.below hb)
  have HB2 := Lib.hid (HB1.out.trans (hb.mono HB1.out.size))
  clear hb
  go_wp2_with fail
  have HX := Lib.hid (XRow.new 28 w2 503 0 2)
  have HF3 := Lib.hid (HF2.out.below ((Below.refl w2.heap.size w2).alloc (Nat.le_refl _) (.cells #[.int .i64 503, .int .i64 0, .int .i64 2] 28)))
  have HB3 := Lib.hid (HB2.out.alloc HB2.out.size (.cells #[.int .i64 503, .int .i64 0, .int .i64 2] 28))
  generalize w2.alloc (.cells #[.int .i64 503, .int .i64 0, .int .i64 2] 28) = w3 at HX HF3 HB3 ⊢
  generalize w2.heap.size = qx at HX ⊢
  clear HF1 HF2 HB2 HB1
  refine (fields_99 _ (HT.out.below HB3.out)).mono ?_
  rintro e w4 ⟨rfl, hb⟩
  have HX4 := Lib.hid (HX.out.step hb)
  have HF4 := Lib.hid (HF3.out.below hb)
  have HB4 := Lib.hid (HB3.out.trans (hb.mono HB3.out.size))
  clear hb HX HF3 HB3
  go_wp2_with fail
  refine (read_nil _).mono ?_
  rintro e w5 ⟨rfl, hb⟩
  have HX5 := Lib.hid (HX4.out.step hb)
  have HF5 := Lib.hid (HF4.out.below hb)
  have HB5 := Lib.hid (HB4.out.trans (hb.mono HB4.out.size))
  clear hb HX4 HF4 HB4
  have HX6 := Lib.hid (HX5.out.step ((Below.refl w5.heap.size w5).alloc (Nat.le_refl _) (.cells #[.int .i64 0, .int .i64 0, .int .i64 0] 28)))
  have HF6 := Lib.hid (HF5.out.below ((Below.refl w5.heap.size w5).alloc (Nat.le_refl _) (.cells #[.int .i64 0, .int .i64 0, .int .i64 0] 28)))
  have HB6 := Lib.hid (HB5.out.alloc HB5.out.size (.cells #[.int .i64 0, .int .i64 0, .int .i64 0] 28))
  go_upto_region 5 with fail
  generalize w5.alloc (.cells #[.int .i64 0, .int .i64 0, .int .i64 0] 28) = w6 at HX6 HF6 HB6 ⊢
  clear HX5 HF5 HB5
  obtain ⟨b, o, rfl, c0, c1, c2⟩ := HF6.out 0 _ rfl
  obtain ⟨b', o', e', d0, d1, d2⟩ := HF6.out 2 _ rfl
  obtain ⟨rfl, rfl, _⟩ := Addr.mk.inj (Option.some.inj e')
  rw [Nat.zero_mul, Nat.add_zero] at c0 c1 c2
  have x0 := HX6.out.c0
  have x1 := HX6.out.c1
  have x2 := HX6.out.c2
  simp only [stS, raS, Nat.reduceMul] at c0 c1 c2 d0 d1 d2
  rw [Nat.add_assoc] at d1 d2
  clear e'
  go_wp2_with fail
  refine (body_25 _).mono ?_
  rintro e w7 ⟨v7, rfl, hcv, hb⟩
  have hcv7 := hcv w7 (Below.refl _ _)
  have HX7 := Lib.hid (HX6.out.step hb)
  have HB7 := Lib.hid (HB6.out.trans (hb.mono HB6.out.size))
  have hbc := Lib.run_convert_bytes_const (P := Tryd.prog) w7 42 5 #[.int .u8 98, .int .u8 99] 2 2 Tryd.underlying42 Tryd.underlying5
  clear hb hcv c0 c1 c2 d0 d1 d2 x0 x1 x2 HX6 HF6 HB6
  go_wp2_with fail
  have hby8 : BytesN (w7.alloc (.cells #[.int .u8 98, .int .u8 99] 5 (2, 3))) (some ⟨w7.heap.size, 0, none⟩) [98, 99] := marked2 w7 98 99
  have HX8 := Lib.hid (HX7.out.step ((Below.refl w7.heap.size w7).alloc (Nat.le_refl _) (.cells #[.int .u8 98, .int .u8 99] 5 (2, 3))))
  have HB8 := Lib.hid (HB7.out.alloc HB7.out.size (.cells #[.int .u8 98, .int .u8 99] 5 (2, 3)))
  generalize w7.alloc (.cells #[.int .u8 98, .int .u8 99] 5 (2, 3)) = w8 at hby8 HX8 HB8 ⊢
  clear hbc hcv7 HX7 HB7
  refine (whole_bc _ _ _ hby8).mono ?_
  rintro e w9 ⟨rfl, hb⟩
  have HX9 := Lib.hid (HX8.out.step hb)
  have HB9 := Lib.hid (HB8.out.trans (hb.mono HB8.out.size))
  have hbd := Lib.run_convert_bytes_const (P := Tryd.prog) w9 42 5 #[.int .u8 98, .int .u8 100] 2 2 Tryd.underlying42 Tryd.underlying5
  clear hb hby8 HX8 HB8
  go_wp2_with fail
  have hby10 : BytesN (w9.alloc (.cells #[.int .u8 98, .int .u8 100] 5 (2, 3))) (some ⟨w9.heap.size, 0, none⟩) [98, 100] := marked2 w9 98 100
  have HX10 := Lib.hid (HX9.out.step ((Below.refl w9.heap.size w9).alloc (Nat.le_refl _) (.cells #[.int .u8 98, .int .u8 100] 5 (2, 3))))
  have HB10 := Lib.hid (HB9.out.alloc HB9.out.size (.cells #[.int .u8 98, .int .u8 100] 5 (2, 3)))
  generalize w9.alloc (.cells #[.int .u8 98, .int .u8 100] 5 (2, 3)) = w10 at hby10 HX10 HB10 ⊢
  clear hbd HX9 HB9
  refine (whole_bd _ _ _ hby10).mono ?_
  rintro e w11 ⟨rfl, hb⟩
  have HX11 := Lib.hid (HX10.out.step hb)
  have HB11 := Lib.hid (HB10.out.trans (hb.mono HB10.out.size))
  clear hb hby10 HX10 HB10
  go_wp2_with fail
  refine (wait_11 _).mono ?_
  rintro e w12 ⟨rfl, hw⟩
  subst hw
  go_wp2_with fail
  refine (wait_0 _).mono ?_
  rintro e w13 ⟨rfl, hw⟩
  subst hw
  have x0 := HX11.out.c0
  have x1 := HX11.out.c1
  have x2 := HX11.out.c2
  go_wp2_with fail
  refine (check_503 _).mono ?_
  rintro e w14 ⟨rfl, hb⟩
  have HB14 := Lib.hid (HB11.out.trans (hb.mono HB11.out.size))
  clear hb x0 x1 x2
  go_wp2_with fail
  go_ret
  exact ⟨rfl, HB14.out⟩
#print axioms awake18_any
end Go.Proofs.YtfgicmekkjhlkaaDoor
