/- The statement HencLongs: the walk (DRAFT). -/
import Derived.Test.YteceinojmdgmeaaL06
import Derived.Test.YteceinojmdgmeaaC31
import Derived.OwnWalk
namespace Go.Proofs.Yteceinojmdgmeaa
open Go.RowKit
set_option linter.unusedVariables false
set_option linter.unusedSimpArgs false

theorem u16_nat {x : Int} (h : (Lit.int .u16 x).wf = true) : ∃ n : Nat, x = n ∧ n < 65536 := by
  have m1 : IntKind.u16.min = 0 := rfl
  have m2 : IntKind.u16.max = 65535 := rfl
  simp [Lit.wf, m1, m2] at h
  exact ⟨x.toNat, (Int.toNat_of_nonneg (by omega)).symm, by omega⟩
/-- So many zero bytes as a text. -/
def zeroS (v : Nat) : ByteArray := bsB (List.replicate v 0)
theorem zeroS_size (v : Nat) : (zeroS v).size = v := by
  show ((List.replicate v 0).map UInt8.ofNat).toArray.size = v
  simp
theorem zeroS_data (v : Nat) : (zeroS v) = ⟨((List.replicate v 0).map UInt8.ofNat).toArray⟩ := rfl
set_option maxRecDepth 100000 in
theorem zero_conv (W : World) (g v B : Nat) (h : OwnB W B (.slice (some ⟨g, 0, none⟩) v v) (List.replicate v 0)) : (convert 23 9 (.slice (some ⟨g, 0, none⟩) v v)).run Try.prog W = .ok (.string (zeroS v)) W := by
  obtain ⟨oa, cap, e, hby, _, _, _⟩ := h.form3
  injection e with e _ _
  subst e
  exact conv_bytes W _ v v (List.replicate v 0) (by simp) hby (fun i hi => by
    rw [List.getD_eq_getElem?_getD, List.getElem?_eq_getElem hi]
    simp)
theorem made_own {W : World} {B v g : Nat} (h : W.ownsRow B 5 1 (.slice (some ⟨g, 0, none⟩) v v) v (madeCells (Value.int .u8 0).cells (v * 1)).toList) : OwnB W B (.slice (some ⟨g, 0, none⟩) v v) (List.replicate v 0) := by
  unfold OwnB
  have e : (madeCells (Value.int .u8 0).cells (v * 1)).toList = (List.replicate v 0).map (fun n : Nat => Value.int .u8 (n : Int)) := by
    rw [List.map_replicate]
    unfold madeCells
    rw [Nat.mul_one]
    apply List.eq_replicate_iff.2
    constructor
    · simp
    · intro x hx
      simp only [Array.toList_map, Array.toList_range, List.mem_map, List.mem_range] at hx
      obtain ⟨y, _, rfl⟩ := hx
      have : y % (Value.int .u8 0).cells.size = 0 := Nat.mod_one y
      rw [this]
      rfl
  rw [List.length_replicate, ← e]
  exact h
/-- The field's row, and the list that grows. -/
structure LR (w : World) (q : Nat) (f : Fld) (vv : Value) (l : List Fld) (W : World) : Prop where
  own : OwnF W (q + 1) vv l
  row : FRow W q f
  ge : w.heap.size ≤ q
  below : Below w.heap.size w W
theorem LR.step {w W W' : World} {q : Nat} {f : Fld} {vv : Value} {l : List Fld} (h : LR w q f vv l W) (hb : Below W.heap.size W W') : LR w q f vv l W' :=
  ⟨h.own.step hb, h.row.step hb, h.ge, bs_hd h.below hb⟩
theorem LR.told {w W W2 : World} {q : Nat} {f g : Fld} {vv v2 : Value} {l : List Fld} (h : LR w q f vv l W) (hg : W.grownBy W2 vv.ownBlock) (hown : OwnF W2 (q + 1) v2 (l ++ [g])) : LR w q f v2 (l ++ [g]) W2 := by
  have hge : ∀ g, vv.ownBlock = some g → q + 1 ≤ g := fun g hg => by
    obtain ⟨_, _, e, _, _, _, hx⟩ := h.own.form
    rw [e] at hg
    cases hoa : (‹Option Addr› : Option Addr) with
    | none => rw [hoa] at hg; cases hg
    | some q =>
      rw [hoa] at hg
      have := hx q hoa
      simp only [Value.ownBlock, Option.some.injEq] at hg
      omega
  exact ⟨hown, (hg.block _ h.row.lt (fun e => by have := hge _ e.symm; omega)).trans h.row, h.ge, h.below.grown hg h.below.size (fun k hk => by have := hge k hk; have := h.ge; omega)⟩
theorem rep_snoc {α : Type} (k : Nat) (x : α) : List.replicate k x ++ [x] = List.replicate (k + 1) x := by
  rw [List.replicate_succ']
/-- What comes of the block: none and the error, or one that is not too long. -/
theorem long_blk {s : ByteArray} {v k : Nat} (hv : s.size = v) {w : World} {e : Ending} {w' : World} (h : EBlkPost 4096 4096 4096 none 0 0 [] (List.replicate k ⟨sX, s, false⟩) w e w') :
    (e = .returned (.tuple #[.agg #[.int .i64 4096, .slice none 0 0, .int .i64 4096, .int .i64 4096], .slice none 0 0, .int .i64 5]) ∧ Below w.heap.size w w') ∨
    (∃ o2 n2 c2 ob nb cb, e = .returned (.tuple #[.agg #[.int .i64 4096, .slice o2 n2 c2, .int .i64 4096, .int .i64 4096], .slice ob nb cb, .int .i64 0]) ∧
      ¬ (0 < k ∧ (4096 < v ∨ 8192 < v * k) ∧ (4096 < 2 * (33 + v) ∨ 4096 < v)) ∧ Below w.heap.size w w') := by
  have he : echk 4096 4096 4096 [] = 0 := by decide
  rcases h with ⟨h, _⟩ | ⟨_, _, h, hb⟩ | ⟨_, hl, T2, O1, hr, _, ⟨_, h, hb⟩ | ⟨hc, o2, n2, c2, bv, h, ho, _, _, _, hb⟩⟩
  · exact absurd he h
  · exact .inl ⟨h, hb⟩
  · exact .inl ⟨h, hb⟩
  · obtain ⟨oa, cap, rfl, _⟩ := ho.form3
    refine .inr ⟨o2, n2, c2, _, _, _, h, ?_, hb⟩
    rintro ⟨h0, h1, h2⟩
    have hlf : ¬ 4096 < v := fun h4 => by
      have : (List.replicate k (⟨sX, s, false⟩ : Fld)).any longF = true := by
        rw [List.any_eq_true]
        refine ⟨⟨sX, s, false⟩, List.mem_replicate.2 ⟨by omega, rfl⟩, ?_⟩
        unfold longF
        have h4 : decide (4096 < (⟨sX, s, false⟩ : Fld).value.size) = true := decide_eq_true (show 4096 < s.size by omega)
        rw [h4, Bool.or_true]
      rw [this] at hl
      cases hl
    have hz : rzL 4096 4096 (rzL 4096 4096 []) = [] := by decide
    have hz2 : rzO 4096 4096 (rzO 4096 4096 []) = [] := by decide
    rw [hz] at hr
    rw [hz2, List.nil_append] at hc
    have hk : 8192 < s.size * k := by
      rcases h1 with h1 | h1
      · exact absurd h1 hlf
      · rw [hv]; exact h1
    have := long_law (s := s) (k := k) (by omega) hk hr
    omega
set_option maxRecDepth 100000 in
set_option maxHeartbeats 8000000 in
theorem hencLongs_any (a b : Nat) (w : World) (ha : a < 65536) (hb : b < 256) : Calls Try.prog 3 #[.int .u16 (a : Int), .int .u8 (b : Int)] w fun e w' => e = .returned (.bool true) ∧ Below w.heap.size w w' := by
  have HAW := Lib.hid (fun W => awake07_any W)
  have hrem : Int.tmod (a : Int) 5001 = ((a % 5001 : Nat) : Int) := rfl
  have hw1 : IntKind.i64.wrap (a : Int) = (a : Int) := IntWalk.i64_in _ (by omega)
  go_enter Try.func3, Try.ntmps3
  obtain ⟨i0, hi0, hz0, hz1, hz2⟩ := info_parts u8_info
  have HI := Lib.hid hi0
  have HZ0 := Lib.hid hz0
  have HZ1 := Lib.hid hz1
  have HB2 := Lib.hid (show i0.bytes * (a % 5001) ≤ 281474976710656 by rw [hz2]; omega)
  clear hi0 hz0 hz1 hz2
  generalize hv : a % 5001 = v at *
  have HV := Lib.hid (show v ≤ 5000 by omega)
  have HVL := Lib.hid (show v ≤ maxLen by unfold maxLen; omega)
  have HCV := Lib.hid (fun W g (h : OwnB W w.heap.size (.slice (some ⟨g, 0, none⟩) v v) (List.replicate v 0)) => zero_conv W g v w.heap.size h)
  go_upto_region 2 with (first | (refine wpList_make_full _ rfl _ _ 23 rfl w.heap.size 5 i0 _ 1 Try.underlying23 HI.out HZ0.out HZ1.out .i64 .i64 _ _ v rfl rfl rfl rfl HB2.out HVL.out (Nat.le_refl _) ?_; intro w2 hown hg; have hcv := HCV.out w2 _ (made_own hown); have HBW := Lib.hid ((Below.refl w.heap.size w).grown hg (Nat.le_refl _) (fun q hq => by cases hq)); clear hown hg))
  generalize hS : zeroS v = s at *
  have HSV := Lib.hid (show s.size = v by rw [← hS]; exact zeroS_size v)
  clear hS hcv HCV
  have HR0 := Lib.hid (show LR w w2.heap.size ⟨sX, s, false⟩ (.slice none 0 0) [] (w2.alloc (.cells #[.string sX, .string s, .bool false] 25)) from
    ⟨World.ownsRow_nil _ _ _ _, heap_alloc_new _ _, HBW.out.size, HBW.out.alloc HBW.out.size _⟩)
  generalize hq5 : w2.heap.size = q5 at *
  generalize (w2.alloc (.cells #[.string sX, .string s, .bool false] 25)) = wd at HR0 ⊢
  have hrem6 : Int.tmod (b : Int) 6 = ((b % 6 : Nat) : Int) := rfl
  generalize hk : b % 6 = kk at *
  have HKK := Lib.hid (show kk < 6 by omega)
  clear hk HBW
  clear HI HZ0 HZ1 HB2
  obtain ⟨j0, hj0, hy0, hy1, hy2⟩ := info_parts field_info
  have HJ := Lib.hid hj0
  have HY0 := Lib.hid hy0
  have HY1 := Lib.hid hy1
  have HY2 := Lib.hid hy2
  clear hj0 hy0 hy1 hy2
  have hwk : IntKind.i64.wrap (kk : Int) = (kk : Int) := IntWalk.i64_in _ (by have := HKK.out; omega)
  have hwk8 : IntKind.u8.wrap (kk : Int) = (kk : Int) := IntWalk.u8_in _ (by have := HKK.out; omega)
  go_wp2_with fail
  go_loopw [6, 7] (fun ov iv wr => ∃ (k : Nat) (vv : Value), ov = vv ∧ iv = .int .i64 k ∧ k ≤ kk ∧ LR w q5 ⟨sX, s, false⟩ vv (List.replicate k ⟨sX, s, false⟩) wr) (fun _ iv _ => kk - (intOf iv).toNat)
  case atStart => exact ⟨0, _, rfl, rfl, Nat.zero_le _, HR0.out⟩
  case round =>
    obtain ⟨k, vv, hv, rfl, hk, hrel⟩ := hrel
    obtain rfl := hv.symm
    have HR := Lib.hid hrel
    clear hrel hv HR0
    have hw8 : IntKind.i64.wrap ((k : Int) + 1) = (k : Int) + 1 := IntWalk.i64_in _ (by have := HKK.out; omega)
    by_cases hlt : k < kk
    · have q1 : decide ((k : Int) < (kk : Int)) = true := decide_eq_true (by omega)
      have f0 := HR.out.row.c0
      have f1 := HR.out.row.c1
      have f2 := HR.out.row.c2
      have HONE := Lib.hid (show ∀ u ∈ [Value.string sX, .string s, .bool false], u.oneCell' = true from by intro u hu; simp at hu; rcases hu with rfl | rfl | rfl <;> rfl)
      go_upto_region 6 with fail
      have HRA := Lib.hid (HR.out.step ((Below.refl _ _).alloc (Nat.le_refl _) (.cells #[.string sX, .string s, .bool false] 25)))
      have HSZ8 := Lib.hid (show q5 + 1 ≤ (wr.alloc (.cells #[.string sX, .string s, .bool false] 25)).heap.size from HRA.out.row.lt)
      go_upto_region 5 with (first | (at_builtin; refine wpList_append_own_at _ rfl _ _ 26 rfl (q5 + 1) 25 j0 _ 3 40 Try.underlying26 HJ.out HY0.out HY1.out HY2.out rfl (by omega) _ _ _ rfl HRA.out.own ⟨wr.heap.size, 0, none⟩ 1 1 [Value.string sX, .string s, .bool false] rfl rfl (cells_new wr [Value.string sX, .string s, .bool false] _) HONE.out (by unfold maxLen; rw [List.length_replicate]; have := HKK.out; omega) (by rw [List.length_replicate]; have := HKK.out; omega) HSZ8.out ?_; intro v9 w9 hown9 hg9 _ hat9; have HR9 := Lib.hid (HRA.out.told hg9 (show OwnF w9 (q5 + 1) v9 (List.replicate k ⟨sX, s, false⟩ ++ [⟨sX, s, false⟩]) from by unfold OwnF; rw [fcells_append, List.length_append]; exact (by simpa [fcells, Fld.cells] using hown9))); clear hown9 hg9 hat9))
      replace HR := Lib.hid (rep_snoc k (⟨sX, s, false⟩ : Fld) ▸ HR9.out)
      clear HRA HSZ8 HR9 f0 f1 f2
      go_wp2_with fail
      go_roundw
      case rel => exact ⟨k + 1, _, rfl, by go_num, by omega, HR.out⟩
      case measure => simp [intOf]; omega
    · have q1 : decide ((k : Int) < (kk : Int)) = false := decide_eq_false (by omega)
      obtain rfl : k = kk := by omega
      obtain ⟨oa, cap, e, hfn, hc1, hc2, hob⟩ := HR.out.own.form
      rw [List.length_replicate] at e hc1
      have HL := Lib.hid hfn
      have HC := Lib.hid hc1
      subst e
      clear hfn hc1 hc2 hob hlt hk
      go_upto_region 7 with fail
      go_wp2_with fail
      refine (enew_any _).mono ?_
      rintro e7 w7 ⟨rfl, hb7⟩
      replace HR := Lib.hid (HR.out.step hb7)
      replace HL := Lib.hid (HL.out.below hb7)
      clear hb7
      go_upto_region 8 with fail
      have H8 := Lib.hid (ERow.new w7 4096 4096 4096 (.slice none 0 0))
      have hbn := below_new (W := w7) (.cells #[.int .i64 4096, .slice none 0 0, .int .i64 4096, .int .i64 4096] 30)
      replace HR := Lib.hid (HR.out.step hbn)
      replace HL := Lib.hid (HL.out.below hbn)
      clear hbn
      generalize hq8 : w7.heap.size = q8 at *
      generalize (w7.alloc (.cells #[.int .i64 4096, .slice none 0 0, .int .i64 4096, .int .i64 4096] 30)) = w8 at *
      have HRF := Lib.hid HR.out.row
      have HRB := Lib.hid HR.out.below
      have HEB := Lib.hid (eblock_any 4096 4096 4096 none 0 0 [] rfl (Nat.le_refl _) (fun f hf => by cases hf) (by omega) oa k cap (List.replicate k ⟨sX, s, false⟩) (List.length_replicate ..) (fun f hf => by
        have := List.eq_of_mem_replicate hf
        subst this
        have h1 := HSV.out
        have h2 := HV.out
        unfold lightF
        have h3 : (⟨sX, s, false⟩ : Fld).name.size = 1 := rfl
        have h4 : (⟨sX, s, false⟩ : Fld).value.size = s.size := rfl
        simp [h3, h4]
        omega) (by have := HKK.out; omega) w8 (FieldsN.nil _ _) HL.out)
      unfold EBlkPost at HEB
      have c0 := H8.out.c0
      have c1 := H8.out.c1
      have c2 := H8.out.c2
      have c3 := H8.out.c3
      go_wp2_with fail
      refine (HEB.out).mono ?_
      clear HEB HL HR c0 c1 c2 c3
      intro e w9 he
      replace he := long_blk HSV.out he
      rcases he with ⟨rfl, hb⟩ | ⟨o2, n2, c2v, ob, nb, cb, rfl, hno, hb⟩
      · replace H8 := Lib.hid (H8.out.step hb)
        replace HRF := Lib.hid (HRF.out.step hb)
        replace HRB := Lib.hid (bs_hd HRB.out hb)
        clear hb
        go_upto_region 9 with fail
        have H9 := Lib.hid (ERow.new w9 4096 4096 4096 (.slice none 0 0))
        have hbn := below_new (W := w9) (.cells #[.int .i64 4096, .slice none 0 0, .int .i64 4096, .int .i64 4096] 30)
        replace H8 := Lib.hid (H8.out.step hbn)
        replace HRF := Lib.hid (HRF.out.step hbn)
        replace HRB := Lib.hid (bs_hd HRB.out hbn)
        clear hbn
        generalize hq9 : w9.heap.size = q9 at *
        generalize (w9.alloc (.cells #[.int .i64 4096, .slice none 0 0, .int .i64 4096, .int .i64 4096] 30)) = wa at *
        have f0 := HRF.out.c0
        have f1 := HRF.out.c1
        have f2 := HRF.out.c2
        have hsv : s.size = v := HSV.out
        clear q1
        go_cut [12] (fun v12 wx => v12 = .bool (decide (4096 < v ∨ 8192 < v * k)) ∧ wa = wx)
        case first =>
          by_cases c1 : 4096 < v
          · have q1 : decide (4096 < (v : Int)) = true := decide_eq_true (by omega)
            have HE := Lib.hid (show decide (4096 < v ∨ 8192 < v * k) = true from decide_eq_true (.inl c1))
            clear c1
            go_wp2_with fail
            go_meet
            exact ⟨congrArg Value.bool HE.out.symm, rfl⟩
          · have q1 : decide (4096 < (v : Int)) = false := decide_eq_false (by omega)
            have HE := Lib.hid (show decide (4096 < v ∨ 8192 < v * k) = decide (8192 < v * k) from by
              by_cases c2 : 8192 < v * k
              · rw [decide_eq_true c2, decide_eq_true (.inr c2)]
              · rw [decide_eq_false c2, decide_eq_false (fun h => h.elim c1 c2)])
            have hwm : IntKind.i64.wrap ((v : Int) * (k : Int)) = ((v * k : Nat) : Int) := by
              have h1 : v * k ≤ 5000 * 6 := Nat.mul_le_mul HV.out (by have := HKK.out; omega)
              rw [show (v : Int) * (k : Int) = ((v * k : Nat) : Int) from rfl]
              exact IntWalk.i64_in _ (by omega)
            generalize v * k = vk at *
            clear c1
            by_cases c2 : 8192 < vk
            · have q2 : decide (8192 < (vk : Int)) = true := decide_eq_true (by omega)
              replace HE := Lib.hid (HE.out.trans (decide_eq_true c2))
              clear c2
              go_wp2_with fail
              go_meet
              exact ⟨congrArg Value.bool HE.out.symm, rfl⟩
            · have q2 : decide (8192 < (vk : Int)) = false := decide_eq_false (by omega)
              replace HE := Lib.hid (HE.out.trans (decide_eq_false c2))
              clear c2
              go_wp2_with fail
              go_meet
              exact ⟨congrArg Value.bool HE.out.symm, rfl⟩
        case rest =>
          obtain ⟨rfl, rfl⟩ := hcut
          go_upto_region 10 with fail
          go_cut [70] (fun v70 wx => v70 = .bool (decide (0 < k ∧ (4096 < v ∨ 8192 < v * k) ∧ (4096 < 2 * (33 + v) ∨ 4096 < v))) ∧ wx = wa)
          case first =>
            have q5 : IntKind.i64.wrap (33 + (v : Int)) = ((33 + v : Nat) : Int) := by
              rw [show (33 + (v : Int)) = ((33 + v : Nat) : Int) from rfl]; exact IntWalk.i64_in _ (by have := HV.out; omega)
            have q6 : IntKind.i64.wrap (2 * ((33 + v : Nat) : Int)) = ((2 * (33 + v) : Nat) : Int) := by
              rw [show (2 * ((33 + v : Nat) : Int)) = ((2 * (33 + v) : Nat) : Int) from rfl]; exact IntWalk.i64_in _ (by have := HV.out; omega)
            generalize hv2 : 2 * (33 + v) = v2 at *
            generalize hv1 : 33 + v = v1 at *
            have HV2 := Lib.hid (And.intro hv1 hv2)
            clear hv1 hv2
            generalize hlg : decide (4096 < v ∨ 8192 < v * k) = lg at *
            have HLG := Lib.hid hlg
            clear hlg
            by_cases d1 : 0 < k
            · have p1 : 0 < k := d1
              cases lg
              · have HE := Lib.hid (show decide (0 < k ∧ (4096 < v ∨ 8192 < v * k) ∧ (4096 < v2 ∨ 4096 < v)) = false from decide_eq_false (fun h => absurd (of_decide_eq_false HLG.out) (not_not_intro h.2.1)))
                clear d1
                go_wp2_with fail
                go_meet
                exact ⟨congrArg Value.bool HE.out.symm, rfl⟩
              · by_cases d2 : 4096 < v2
                · have p2 : decide (4096 < (v2 : Int)) = true := decide_eq_true (by omega)
                  have HE := Lib.hid (show decide (0 < k ∧ (4096 < v ∨ 8192 < v * k) ∧ (4096 < v2 ∨ 4096 < v)) = true from decide_eq_true ⟨d1, of_decide_eq_true HLG.out, .inl d2⟩)
                  clear d1 d2
                  go_wp2_with fail
                  go_meet
                  exact ⟨congrArg Value.bool HE.out.symm, rfl⟩
                · have p2 : decide (4096 < (v2 : Int)) = false := decide_eq_false (by omega)
                  by_cases d3 : 4096 < v
                  · have p3 : decide (4096 < (v : Int)) = true := decide_eq_true (by omega)
                    have HE := Lib.hid (show decide (0 < k ∧ (4096 < v ∨ 8192 < v * k) ∧ (4096 < v2 ∨ 4096 < v)) = true from decide_eq_true ⟨d1, of_decide_eq_true HLG.out, .inr d3⟩)
                    clear d1 d2 d3
                    go_wp2_with fail
                    go_meet
                    exact ⟨congrArg Value.bool HE.out.symm, rfl⟩
                  · have p3 : decide (4096 < (v : Int)) = false := decide_eq_false (by omega)
                    have HE := Lib.hid (show decide (0 < k ∧ (4096 < v ∨ 8192 < v * k) ∧ (4096 < v2 ∨ 4096 < v)) = false from decide_eq_false (fun h => h.2.2.elim d2 d3))
                    clear d1 d2 d3
                    go_wp2_with fail
                    go_meet
                    exact ⟨congrArg Value.bool HE.out.symm, rfl⟩
            · have p1 : ¬ 0 < k := d1
              have HE := Lib.hid (show decide (0 < k ∧ (4096 < v ∨ 8192 < v * k) ∧ (4096 < v2 ∨ 4096 < v)) = false from decide_eq_false (fun h => d1 h.1))
              clear d1
              go_wp2_with fail
              go_meet
              exact ⟨congrArg Value.bool HE.out.symm, rfl⟩
          case rest =>
            obtain ⟨rfl, rfl⟩ := hcut
            clear f0 f1 f2
            generalize decide (0 < k ∧ (4096 < v ∨ 8192 < v * k) ∧ (4096 < 2 * (33 + v) ∨ 4096 < v)) = cc
            have HSM := Lib.hid (fun W => esame_any 4096 4096 4096 4096 4096 4096 none none 0 0 0 0 [] [] rfl rfl (by omega) (by omega) W (FieldsN.nil _ _) (FieldsN.nil _ _))
            have e0 : (decide ((4096 : Int) = 4096) && (decide ((4096 : Int) = 4096) && (decide ((4096 : Int) = 4096) && sameL [] []))) = true := by decide
            rw [e0] at HSM
            clear e0
            have c80 := H8.out.c0
            have c81 := H8.out.c1
            have c82 := H8.out.c2
            have c83 := H8.out.c3
            have c90 := H9.out.c0
            have c91 := H9.out.c1
            have c92 := H9.out.c2
            have c93 := H9.out.c3
            cases cc
            · go_wp2_with fail
              refine (HSM.out _).mono ?_
              rintro e10 w10 ⟨rfl, hb10⟩
              replace HRB := Lib.hid (bs_hd HRB.out hb10)
              clear hb10 c80 c81 c82 c83 c90 c91 c92 c93 H8 H9 HRF HSM
              go_wp2_with fail
              refine (HAW.out _).mono ?_
              rintro e11 w11 ⟨rfl, hb11⟩
              replace HRB := Lib.hid (bs_hd HRB.out hb11)
              clear hb11
              go_wp2_with fail
              go_ret
              exact ⟨rfl, HRB.out⟩
            · go_wp2_with fail
              refine (HSM.out _).mono ?_
              rintro e10 w10 ⟨rfl, hb10⟩
              replace HRB := Lib.hid (bs_hd HRB.out hb10)
              clear hb10 c80 c81 c82 c83 c90 c91 c92 c93 H8 H9 HRF HSM
              go_wp2_with fail
              refine (HAW.out _).mono ?_
              rintro e11 w11 ⟨rfl, hb11⟩
              replace HRB := Lib.hid (bs_hd HRB.out hb11)
              clear hb11
              go_wp2_with fail
              go_ret
              exact ⟨rfl, HRB.out⟩
      · replace H8 := Lib.hid (H8.out.step hb)
        replace HRF := Lib.hid (HRF.out.step hb)
        replace HRB := Lib.hid (bs_hd HRB.out hb)
        clear hb
        go_upto_region 9 with fail
        have H9 := Lib.hid (ERow.new w9 4096 4096 4096 (.slice o2 n2 c2v))
        have hbn := below_new (W := w9) (.cells #[.int .i64 4096, .slice o2 n2 c2v, .int .i64 4096, .int .i64 4096] 30)
        replace H8 := Lib.hid (H8.out.step hbn)
        replace HRF := Lib.hid (HRF.out.step hbn)
        replace HRB := Lib.hid (bs_hd HRB.out hbn)
        clear hbn
        generalize hq9 : w9.heap.size = q9 at *
        generalize (w9.alloc (.cells #[.int .i64 4096, .slice o2 n2 c2v, .int .i64 4096, .int .i64 4096] 30)) = wa at *
        have f0 := HRF.out.c0
        have f1 := HRF.out.c1
        have f2 := HRF.out.c2
        have hsv : s.size = v := HSV.out
        clear q1
        go_cut [12] (fun v12 wx => v12 = .bool (decide (4096 < v ∨ 8192 < v * k)) ∧ wa = wx)
        case first =>
          by_cases c1 : 4096 < v
          · have q1 : decide (4096 < (v : Int)) = true := decide_eq_true (by omega)
            have HE := Lib.hid (show decide (4096 < v ∨ 8192 < v * k) = true from decide_eq_true (.inl c1))
            clear c1
            go_wp2_with fail
            go_meet
            exact ⟨congrArg Value.bool HE.out.symm, rfl⟩
          · have q1 : decide (4096 < (v : Int)) = false := decide_eq_false (by omega)
            have HE := Lib.hid (show decide (4096 < v ∨ 8192 < v * k) = decide (8192 < v * k) from by
              by_cases c2 : 8192 < v * k
              · rw [decide_eq_true c2, decide_eq_true (.inr c2)]
              · rw [decide_eq_false c2, decide_eq_false (fun h => h.elim c1 c2)])
            have hwm : IntKind.i64.wrap ((v : Int) * (k : Int)) = ((v * k : Nat) : Int) := by
              have h1 : v * k ≤ 5000 * 6 := Nat.mul_le_mul HV.out (by have := HKK.out; omega)
              rw [show (v : Int) * (k : Int) = ((v * k : Nat) : Int) from rfl]
              exact IntWalk.i64_in _ (by omega)
            generalize v * k = vk at *
            clear c1
            by_cases c2 : 8192 < vk
            · have q2 : decide (8192 < (vk : Int)) = true := decide_eq_true (by omega)
              replace HE := Lib.hid (HE.out.trans (decide_eq_true c2))
              clear c2
              go_wp2_with fail
              go_meet
              exact ⟨congrArg Value.bool HE.out.symm, rfl⟩
            · have q2 : decide (8192 < (vk : Int)) = false := decide_eq_false (by omega)
              replace HE := Lib.hid (HE.out.trans (decide_eq_false c2))
              clear c2
              go_wp2_with fail
              go_meet
              exact ⟨congrArg Value.bool HE.out.symm, rfl⟩
        case rest =>
          obtain ⟨rfl, rfl⟩ := hcut
          go_upto_region 10 with fail
          go_cut [70] (fun v70 wx => v70 = .bool (decide (0 < k ∧ (4096 < v ∨ 8192 < v * k) ∧ (4096 < 2 * (33 + v) ∨ 4096 < v))) ∧ wx = wa)
          case first =>
            have q5 : IntKind.i64.wrap (33 + (v : Int)) = ((33 + v : Nat) : Int) := by
              rw [show (33 + (v : Int)) = ((33 + v : Nat) : Int) from rfl]; exact IntWalk.i64_in _ (by have := HV.out; omega)
            have q6 : IntKind.i64.wrap (2 * ((33 + v : Nat) : Int)) = ((2 * (33 + v) : Nat) : Int) := by
              rw [show (2 * ((33 + v : Nat) : Int)) = ((2 * (33 + v) : Nat) : Int) from rfl]; exact IntWalk.i64_in _ (by have := HV.out; omega)
            generalize hv2 : 2 * (33 + v) = v2 at *
            generalize hv1 : 33 + v = v1 at *
            have HV2 := Lib.hid (And.intro hv1 hv2)
            clear hv1 hv2
            generalize hlg : decide (4096 < v ∨ 8192 < v * k) = lg at *
            have HLG := Lib.hid hlg
            clear hlg
            by_cases d1 : 0 < k
            · have p1 : 0 < k := d1
              cases lg
              · have HE := Lib.hid (show decide (0 < k ∧ (4096 < v ∨ 8192 < v * k) ∧ (4096 < v2 ∨ 4096 < v)) = false from decide_eq_false (fun h => absurd (of_decide_eq_false HLG.out) (not_not_intro h.2.1)))
                clear d1
                go_wp2_with fail
                go_meet
                exact ⟨congrArg Value.bool HE.out.symm, rfl⟩
              · by_cases d2 : 4096 < v2
                · have p2 : decide (4096 < (v2 : Int)) = true := decide_eq_true (by omega)
                  have HE := Lib.hid (show decide (0 < k ∧ (4096 < v ∨ 8192 < v * k) ∧ (4096 < v2 ∨ 4096 < v)) = true from decide_eq_true ⟨d1, of_decide_eq_true HLG.out, .inl d2⟩)
                  clear d1 d2
                  go_wp2_with fail
                  go_meet
                  exact ⟨congrArg Value.bool HE.out.symm, rfl⟩
                · have p2 : decide (4096 < (v2 : Int)) = false := decide_eq_false (by omega)
                  by_cases d3 : 4096 < v
                  · have p3 : decide (4096 < (v : Int)) = true := decide_eq_true (by omega)
                    have HE := Lib.hid (show decide (0 < k ∧ (4096 < v ∨ 8192 < v * k) ∧ (4096 < v2 ∨ 4096 < v)) = true from decide_eq_true ⟨d1, of_decide_eq_true HLG.out, .inr d3⟩)
                    clear d1 d2 d3
                    go_wp2_with fail
                    go_meet
                    exact ⟨congrArg Value.bool HE.out.symm, rfl⟩
                  · have p3 : decide (4096 < (v : Int)) = false := decide_eq_false (by omega)
                    have HE := Lib.hid (show decide (0 < k ∧ (4096 < v ∨ 8192 < v * k) ∧ (4096 < v2 ∨ 4096 < v)) = false from decide_eq_false (fun h => h.2.2.elim d2 d3))
                    clear d1 d2 d3
                    go_wp2_with fail
                    go_meet
                    exact ⟨congrArg Value.bool HE.out.symm, rfl⟩
            · have p1 : ¬ 0 < k := d1
              have HE := Lib.hid (show decide (0 < k ∧ (4096 < v ∨ 8192 < v * k) ∧ (4096 < v2 ∨ 4096 < v)) = false from decide_eq_false (fun h => d1 h.1))
              clear d1
              go_wp2_with fail
              go_meet
              exact ⟨congrArg Value.bool HE.out.symm, rfl⟩
          case rest =>
            obtain ⟨rfl, rfl⟩ := hcut
            clear f0 f1 f2
            rw [decide_eq_false hno]
            go_wp2_with fail
            refine (HAW.out _).mono ?_
            rintro e11 w11 ⟨rfl, hb11⟩
            replace HRB := Lib.hid (bs_hd HRB.out hb11)
            clear hb11
            go_wp2_with fail
            go_ret
            exact ⟨rfl, HRB.out⟩
end Go.Proofs.Yteceinojmdgmeaa

