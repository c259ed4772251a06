/- The document's reading of an answer: Read. -/
import Derived.Test.YtfgicmekkjhlkaaDoorRspF
import Derived.Deep.Cut
namespace Go.Proofs.YtfgicmekkjhlkaaDoor
open Go.RowKit
set_option linter.unusedVariables false
set_option linter.unusedSimpArgs false

/-- Does a text begin with a colon? -/
def headC (s : ByteArray) : Bool := match s.data.toList with
  | [] => false
  | c :: _ => decide (c.toNat = 58)
theorem headC_empty {s : ByteArray} (h : s.toList.isEmpty = true) : headC s = false := by
  rw [tl] at h
  unfold headC
  cases hs : s.data.toList with
  | nil => rfl
  | cons c l => rw [hs] at h; simp at h
theorem headC_byte {s : ByteArray} (h0 : 0 < s.size) : headC s = decide (s[0].toNat = 58) := by
  have h := head_byte s h0
  unfold headC
  cases hs : s.data.toList with
  | nil => rw [hs] at h; simp at h
  | cons c l => rw [hs] at h; simp at h; subst h; rfl
theorem size_pos {s : ByteArray} (h : s.toList.isEmpty = false) : 0 < s.size := by
  rw [sz, ← tl]
  cases hl : s.toList with
  | nil => rw [hl] at h; simp at h
  | cons a l => simp
def badR : (Int × Int × Int) × Bool := ((0, 0, 0), false)
/-- What fields are read as. -/
def tailR (a : Bool) (s : Int) (x y : Int × Bool) : (Int × Int × Int) × Bool :=
  if a = false ∨ x.2 = false ∨ y.2 = false ∨ s < 100 ∨ 599 < s then badR else ((s, x.1, y.1), true)
def readR (L : List Fld) : (Int × Int × Int) × Bool := match L with
  | [] => badR
  | f :: M => if (f.name.toList == stS.toList) = false ∨ f.value.size ≠ 3 then badR else if M.any (fun g => headC g.name) = true then badR
    else tailR (numOk f.value.data.toList) (numI f.value.data.toList) (oneF (valsF clS (f :: M))) (oneF (valsF raS (f :: M)))
def ReadPost (L : List Fld) (w : World) (e : Ending) (w' : World) : Prop :=
  e = .returned (.tuple #[.agg #[.int .i64 (readR L).1.1, .int .i64 (readR L).1.2.1, .int .i64 (readR L).1.2.2], .bool (readR L).2]) ∧ Below w.heap.size w w'
set_option maxRecDepth 100000 in
set_option maxHeartbeats 4000000 in
theorem dread_any (oa : Option Addr) (n cap : Nat) (L : List Fld) (hn : L.length = n) (hn30 : n ≤ 100000) (hl : ∀ f ∈ L, f.value.size ≤ maxLen) (w : World) (hf : FieldsN w oa L) :
    Calls Tryd.prog 21 #[.slice oa n cap] w (ReadPost L w) := by
  have HN := Lib.hid hn
  have HF := Lib.hid hf
  have HV1 := Lib.hid (fun W (hW : Below w.heap.size w W) => one_any oa n cap L clS hn hn30 hl W (hf.below hW))
  have HV2 := Lib.hid (fun W (hW : Below w.heap.size w W) => one_any oa n cap L raS hn hn30 hl W (hf.below hW))
  have HQ := Lib.hid (XRow.new 23 w 0 0 0)
  have HB := Lib.hid ((Below.refl w.heap.size w).alloc (Nat.le_refl _) (.cells #[.int .i64 0, .int .i64 0, .int .i64 0] 23))
  have HL := Lib.hid hl
  clear hn hf hl
  cases L with
  | nil =>
    obtain rfl := HN.out
    have HE := Lib.hid (show readR [] = badR from rfl)
    go_enter Tryd.func21, Tryd.ntmps21
    go_upto_region 1 with fail
    generalize w.alloc (.cells #[.int .i64 0, .int .i64 0, .int .i64 0] 23) = w1 at HQ HB ⊢
    have r0 := HQ.out.c0
    have r1 := HQ.out.c1
    have r2 := HQ.out.c2
    have rz0 := frozen_of_row _ _ 0 _ _ HQ.out
    have rz1 := frozen_of_row _ _ 1 _ _ HQ.out
    have rz2 := frozen_of_row _ _ 2 _ _ HQ.out
    have HZ := Lib.hid (((HB.out.setCell (show w.heap.size ≤ (⟨w.heap.size, 0, none⟩ : Addr).block from Nat.le_refl _) (.int .i64 0)).setCell (show w.heap.size ≤ (⟨w.heap.size, 1, none⟩ : Addr).block from Nat.le_refl _) (.int .i64 0)).setCell (show w.heap.size ≤ (⟨w.heap.size, 2, none⟩ : Addr).block from Nat.le_refl _) (.int .i64 0))
    go_wp2_with fail
    refine bodyPost_ret (v := .tuple #[.agg #[.int .i64 0, .int .i64 0, .int .i64 0], .bool false]) (by simp [results, Tryd.results21, go_sem, r0, r1, r2]) rfl ⟨by rw [HE.out]; rfl, HZ.out⟩
  | cons f M =>
    have hpos : 0 < n := by have := HN.out; simp at this; omega
    have hn0 : ((n : Int) == 0) = false := by simp; omega
    have hposi : (0 : Int) < (n : Int) := by omega
    have HRD := Lib.hid (show readR (f :: M) = if (f.name.toList == stS.toList) = false ∨ f.value.size ≠ 3 then badR else if M.any (fun g => headC g.name) = true then badR
      else tailR (numOk f.value.data.toList) (numI f.value.data.toList) (oneF (valsF clS (f :: M))) (oneF (valsF raS (f :: M))) from rfl)
    have HNU := Lib.hid (fun W => refNumber f.value W (HL.out f (by simp)))
    generalize hov1 : oneF (valsF clS (f :: M)) = v1 at HV1 HRD
    generalize hov2 : oneF (valsF raS (f :: M)) = v2 at HV2 HRD
    clear hov1 hov2
    unfold clS at HV1
    unfold raS at HV2
    obtain ⟨x1, x2⟩ := v1
    obtain ⟨y1, y2⟩ := v2
    simp only at HV1 HV2
    go_enter Tryd.func21, Tryd.ntmps21
    go_upto_region 1 with fail
    have HF1 := Lib.hid (HF.out.below HB.out)
    generalize w.alloc (.cells #[.int .i64 0, .int .i64 0, .int .i64 0] 23) = w1 at HQ HB HF1 ⊢
    obtain ⟨b, o, rfl, c0, c1, c2⟩ := HF1.out 0 f rfl
    rw [Nat.zero_mul, Nat.add_zero] at c0 c1
    clear c2
    cases hq1 : (f.name.toList == stS.toList)
    · have hq1' : (f.name.toList == [58, 115, 116, 97, 116, 117, 115]) = false := by rw [show ([58, 115, 116, 97, 116, 117, 115] : List UInt8) = stS.toList from by decide +kernel]; exact hq1
      have HE := Lib.hid (HRD.out.trans (if_pos (.inl hq1)))
      have r0 := HQ.out.c0
      have r1 := HQ.out.c1
      have r2 := HQ.out.c2
      have rz0 := frozen_of_row _ _ 0 _ _ HQ.out
      have rz1 := frozen_of_row _ _ 1 _ _ HQ.out
      have rz2 := frozen_of_row _ _ 2 _ _ HQ.out
      have HZ := Lib.hid (((HB.out.setCell (show w.heap.size ≤ (⟨w.heap.size, 0, none⟩ : Addr).block from Nat.le_refl _) (.int .i64 0)).setCell (show w.heap.size ≤ (⟨w.heap.size, 1, none⟩ : Addr).block from Nat.le_refl _) (.int .i64 0)).setCell (show w.heap.size ≤ (⟨w.heap.size, 2, none⟩ : Addr).block from Nat.le_refl _) (.int .i64 0))
      go_wp2_with fail
      refine bodyPost_ret (v := .tuple #[.agg #[.int .i64 0, .int .i64 0, .int .i64 0], .bool false]) (by simp [results, Tryd.results21, go_sem, r0, r1, r2]) rfl ⟨by rw [HE.out]; rfl, HZ.out⟩
    · have hq1' : (f.name.toList == [58, 115, 116, 97, 116, 117, 115]) = true := by rw [show ([58, 115, 116, 97, 116, 117, 115] : List UInt8) = stS.toList from by decide +kernel]; exact hq1
      by_cases h3 : f.value.size = 3
      · have q3 : ((f.value.size : Int) != 3) = false := by rw [h3]; rfl
        have HRD2 := Lib.hid (HRD.out.trans (if_neg (by rw [hq1]; simp [h3])))
        clear h3 hq1
        go_wp2_with fail
        go_loopw [4] (fun ii wr => ∃ k : Nat, ii = .int .i64 ((k : Int) + 1) ∧ k ≤ M.length ∧ (M.take k).any (fun g => headC g.name) = false ∧ Below w1.heap.size w1 wr) (fun ii _ => n - (intOf ii).toNat)
        case atStart => exact ⟨0, rfl, Nat.zero_le _, rfl, Below.refl _ _⟩
        case round =>
          obtain ⟨k, rfl, hk, hany, hbl⟩ := hrel
          have HAN := Lib.hid hany
          have HBL := Lib.hid hbl
          have HBW := Lib.hid (HB.out.trans (hbl.mono HB.out.size))
          have HQW := Lib.hid (HQ.out.step hbl)
          have HNM := Lib.hid (show n = M.length + 1 from by have := HN.out; simpa using this.symm)
          clear hany hbl
          by_cases hlt : k < M.length
          · have q4 : decide ((k : Int) + 1 < (n : Int)) = true := decide_eq_true (by have := HNM.out; omega)
            have q5 : (k : Int) + 1 < (n : Int) := by have := HNM.out; omega
            have q6 : (0 : Int) ≤ (k : Int) + 1 := by omega
            have hw8 : IntKind.i64.wrap ((k : Int) + 1 + 1) = (k : Int) + 1 + 1 := IntWalk.i64_in _ (by omega)
            obtain ⟨x, hx⟩ : ∃ x, M[k]? = some x := ⟨M[k]'hlt, List.getElem?_eq_getElem _⟩
            have HTK := Lib.hid (take_fld hx)
            obtain ⟨b', o', e', d0, d1, d2⟩ := (HF1.out.below HBL.out) (k + 1) x (by simpa using hx)
            obtain ⟨rfl, rfl, _⟩ := Addr.mk.inj (Option.some.inj e')
            clear e' d1 d2
            obtain ⟨xn, xv, xb⟩ := x
            simp only at d0
            cases he : xn.toList.isEmpty
            · have hsp := size_pos he
              have HHB := Lib.hid (headC_byte hsp)
              by_cases h58 : xn[0].toNat = 58
              · have q58 : ((xn[0].toNat : Int) == 58) = true := by simp [h58]
                have hany : M.any (fun g => headC g.name) = true := by
                  rw [List.any_eq_true]
                  exact ⟨_, List.mem_of_getElem? hx, by rw [HHB.out]; exact decide_eq_true h58⟩
                have HE := Lib.hid (HRD2.out.trans (if_pos hany))
                clear h58 hany
                have r0 := HQW.out.c0
                have r1 := HQW.out.c1
                have r2 := HQW.out.c2
                have rz0 := frozen_of_row _ _ 0 _ _ HQW.out
                have rz1 := frozen_of_row _ _ 1 _ _ HQW.out
                have rz2 := frozen_of_row _ _ 2 _ _ HQW.out
                have HZ := Lib.hid (((HBW.out.setCell (show w.heap.size ≤ (⟨w.heap.size, 0, none⟩ : Addr).block from Nat.le_refl _) (.int .i64 0)).setCell (show w.heap.size ≤ (⟨w.heap.size, 1, none⟩ : Addr).block from Nat.le_refl _) (.int .i64 0)).setCell (show w.heap.size ≤ (⟨w.heap.size, 2, none⟩ : Addr).block from Nat.le_refl _) (.int .i64 0))
                go_wp2_with fail
                refine bodyPost_ret (v := .tuple #[.agg #[.int .i64 0, .int .i64 0, .int .i64 0], .bool false]) (by simp [results, Tryd.results21, go_sem, r0, r1, r2]) rfl ⟨by rw [HE.out]; rfl, HZ.out⟩
              · have q58 : ((xn[0].toNat : Int) == 58) = false := by simp; omega
                have HAN2 := Lib.hid (show (M.take (k + 1)).any (fun g => headC g.name) = false from by rw [HTK.out, List.any_append, HAN.out]; simp [HHB.out, h58])
                clear h58
                go_wp2_with fail
                go_roundw
                case rel => exact ⟨k + 1, by go_num, hlt, HAN2.out, HBL.out⟩
                case measure => simp [intOf]; have := HNM.out; omega
            · have hfalse := headC_empty he
              have HAN2 := Lib.hid (show (M.take (k + 1)).any (fun g => headC g.name) = false from by rw [HTK.out, List.any_append, HAN.out]; simp [hfalse])
              go_wp2_with fail
              go_roundw
              case rel => exact ⟨k + 1, by go_num, hlt, HAN2.out, HBL.out⟩
              case measure => simp [intOf]; have := HNM.out; omega
          · have q4 : decide ((k : Int) + 1 < (n : Int)) = false := decide_eq_false (by have := HNM.out; omega)
            have q5 : ¬ ((k : Int) + 1 < (n : Int)) := by have := HNM.out; omega
            obtain rfl : k = M.length := by omega
            have hany : M.any (fun g => headC g.name) = false := by have := HAN.out; rwa [List.take_length] at this
            have HRD3 := Lib.hid (HRD2.out.trans (if_neg (by rw [hany]; simp)))
            obtain ⟨b', o', e', d0, d1, d2⟩ := (HF1.out.below HBL.out) 0 f rfl
            obtain ⟨rfl, rfl, _⟩ := Addr.mk.inj (Option.some.inj e')
            rw [Nat.zero_mul, Nat.add_zero] at d0 d1
            clear e' d2 hany
            have HSN := Lib.hid (numI_range f.value.data.toList)
            generalize numI f.value.data.toList = s at HNU HRD3 HSN
            generalize numOk f.value.data.toList = a at HNU HRD3
            go_wp2_with fail
            refine (HNU.out _).mono ?_
            rintro e w2 ⟨rfl, rfl⟩
            go_wp2_with fail
            refine (HV1.out _ HBW.out).mono ?_
            rintro e w3 ⟨rfl, hb⟩
            have HB3 := Lib.hid (HBW.out.trans (hb.mono HBW.out.size))
            have HQ3 := Lib.hid (HQW.out.step hb)
            clear hb
            go_wp2_with fail
            refine (HV2.out _ HB3.out).mono ?_
            rintro e w4 ⟨rfl, hb⟩
            have HB4 := Lib.hid (HB3.out.trans (hb.mono HB3.out.size))
            have HQ4 := Lib.hid (HQ3.out.step hb)
            clear hb d0 d1
            unfold tailR at HRD3
            cases a
            · have HE := Lib.hid (HRD3.out.trans (if_pos (.inl rfl)))
              have r0 := HQ4.out.c0
              have r1 := HQ4.out.c1
              have r2 := HQ4.out.c2
              have rz0 := frozen_of_row _ _ 0 _ _ HQ4.out
              have rz1 := frozen_of_row _ _ 1 _ _ HQ4.out
              have rz2 := frozen_of_row _ _ 2 _ _ HQ4.out
              have HZ := Lib.hid (((HB4.out.setCell (show w.heap.size ≤ (⟨w.heap.size, 0, none⟩ : Addr).block from Nat.le_refl _) (.int .i64 0)).setCell (show w.heap.size ≤ (⟨w.heap.size, 1, none⟩ : Addr).block from Nat.le_refl _) (.int .i64 0)).setCell (show w.heap.size ≤ (⟨w.heap.size, 2, none⟩ : Addr).block from Nat.le_refl _) (.int .i64 0))
              go_wp2_with fail
              refine bodyPost_ret (v := .tuple #[.agg #[.int .i64 0, .int .i64 0, .int .i64 0], .bool false]) (by simp [results, Tryd.results21, go_sem, r0, r1, r2]) rfl ⟨by rw [HE.out]; rfl, HZ.out⟩
            cases x2
            · have HE := Lib.hid (HRD3.out.trans (if_pos (.inr (.inl rfl))))
              have r0 := HQ4.out.c0
              have r1 := HQ4.out.c1
              have r2 := HQ4.out.c2
              have rz0 := frozen_of_row _ _ 0 _ _ HQ4.out
              have rz1 := frozen_of_row _ _ 1 _ _ HQ4.out
              have rz2 := frozen_of_row _ _ 2 _ _ HQ4.out
              have HZ := Lib.hid (((HB4.out.setCell (show w.heap.size ≤ (⟨w.heap.size, 0, none⟩ : Addr).block from Nat.le_refl _) (.int .i64 0)).setCell (show w.heap.size ≤ (⟨w.heap.size, 1, none⟩ : Addr).block from Nat.le_refl _) (.int .i64 0)).setCell (show w.heap.size ≤ (⟨w.heap.size, 2, none⟩ : Addr).block from Nat.le_refl _) (.int .i64 0))
              go_wp2_with fail
              refine bodyPost_ret (v := .tuple #[.agg #[.int .i64 0, .int .i64 0, .int .i64 0], .bool false]) (by simp [results, Tryd.results21, go_sem, r0, r1, r2]) rfl ⟨by rw [HE.out]; rfl, HZ.out⟩
            cases y2
            · have HE := Lib.hid (HRD3.out.trans (if_pos (.inr (.inr (.inl rfl)))))
              have r0 := HQ4.out.c0
              have r1 := HQ4.out.c1
              have r2 := HQ4.out.c2
              have rz0 := frozen_of_row _ _ 0 _ _ HQ4.out
              have rz1 := frozen_of_row _ _ 1 _ _ HQ4.out
              have rz2 := frozen_of_row _ _ 2 _ _ HQ4.out
              have HZ := Lib.hid (((HB4.out.setCell (show w.heap.size ≤ (⟨w.heap.size, 0, none⟩ : Addr).block from Nat.le_refl _) (.int .i64 0)).setCell (show w.heap.size ≤ (⟨w.heap.size, 1, none⟩ : Addr).block from Nat.le_refl _) (.int .i64 0)).setCell (show w.heap.size ≤ (⟨w.heap.size, 2, none⟩ : Addr).block from Nat.le_refl _) (.int .i64 0))
              go_wp2_with fail
              refine bodyPost_ret (v := .tuple #[.agg #[.int .i64 0, .int .i64 0, .int .i64 0], .bool false]) (by simp [results, Tryd.results21, go_sem, r0, r1, r2]) rfl ⟨by rw [HE.out]; rfl, HZ.out⟩
            by_cases h1 : s < 100
            · have p1 : decide (s < 100) = true := decide_eq_true h1
              have HE := Lib.hid (HRD3.out.trans (if_pos (.inr (.inr (.inr (.inl h1))))))
              have r0 := HQ4.out.c0
              have r1 := HQ4.out.c1
              have r2 := HQ4.out.c2
              have rz0 := frozen_of_row _ _ 0 _ _ HQ4.out
              have rz1 := frozen_of_row _ _ 1 _ _ HQ4.out
              have rz2 := frozen_of_row _ _ 2 _ _ HQ4.out
              have HZ := Lib.hid (((HB4.out.setCell (show w.heap.size ≤ (⟨w.heap.size, 0, none⟩ : Addr).block from Nat.le_refl _) (.int .i64 0)).setCell (show w.heap.size ≤ (⟨w.heap.size, 1, none⟩ : Addr).block from Nat.le_refl _) (.int .i64 0)).setCell (show w.heap.size ≤ (⟨w.heap.size, 2, none⟩ : Addr).block from Nat.le_refl _) (.int .i64 0))
              go_wp2_with fail
              refine bodyPost_ret (v := .tuple #[.agg #[.int .i64 0, .int .i64 0, .int .i64 0], .bool false]) (by simp [results, Tryd.results21, go_sem, r0, r1, r2]) rfl ⟨by rw [HE.out]; rfl, HZ.out⟩
            have p1 : decide (s < 100) = false := decide_eq_false h1
            by_cases h2 : 599 < s
            · have p2 : decide (599 < s) = true := decide_eq_true h2
              have HE := Lib.hid (HRD3.out.trans (if_pos (.inr (.inr (.inr (.inr h2))))))
              have r0 := HQ4.out.c0
              have r1 := HQ4.out.c1
              have r2 := HQ4.out.c2
              have rz0 := frozen_of_row _ _ 0 _ _ HQ4.out
              have rz1 := frozen_of_row _ _ 1 _ _ HQ4.out
              have rz2 := frozen_of_row _ _ 2 _ _ HQ4.out
              have HZ := Lib.hid (((HB4.out.setCell (show w.heap.size ≤ (⟨w.heap.size, 0, none⟩ : Addr).block from Nat.le_refl _) (.int .i64 0)).setCell (show w.heap.size ≤ (⟨w.heap.size, 1, none⟩ : Addr).block from Nat.le_refl _) (.int .i64 0)).setCell (show w.heap.size ≤ (⟨w.heap.size, 2, none⟩ : Addr).block from Nat.le_refl _) (.int .i64 0))
              go_wp2_with fail
              refine bodyPost_ret (v := .tuple #[.agg #[.int .i64 0, .int .i64 0, .int .i64 0], .bool false]) (by simp [results, Tryd.results21, go_sem, r0, r1, r2]) rfl ⟨by rw [HE.out]; rfl, HZ.out⟩
            have p2 : decide (599 < s) = false := decide_eq_false h2
            have HE := Lib.hid (HRD3.out.trans (if_neg (by rintro (h | h | h | h | h); exact absurd h (by simp); exact absurd h (by simp); exact absurd h (by simp); exact h1 h; exact h2 h)))
            have r0 := HQ4.out.c0
            have r1 := HQ4.out.c1
            have r2 := HQ4.out.c2
            have rz0 := frozen_of_row _ _ 0 _ _ HQ4.out
            have rz1 := frozen_of_row _ _ 1 _ _ HQ4.out
            have rz2 := frozen_of_row _ _ 2 _ _ HQ4.out
            have HZ := Lib.hid (((HB4.out.setCell (show w.heap.size ≤ (⟨w.heap.size, 0, none⟩ : Addr).block from Nat.le_refl _) (.int .i64 s)).setCell (show w.heap.size ≤ (⟨w.heap.size, 1, none⟩ : Addr).block from Nat.le_refl _) (.int .i64 x1)).setCell (show w.heap.size ≤ (⟨w.heap.size, 2, none⟩ : Addr).block from Nat.le_refl _) (.int .i64 y1))
            go_wp2_with fail
            refine bodyPost_ret (v := .tuple #[.agg #[.int .i64 s, .int .i64 x1, .int .i64 y1], .bool true]) (by simp [results, Tryd.results21, go_sem, r0, r1, r2]) rfl ⟨by rw [HE.out], HZ.out⟩
      · have q3 : ((f.value.size : Int) != 3) = true := by simp; omega
        have HE := Lib.hid (HRD.out.trans (if_pos (.inr h3)))
        have r0 := HQ.out.c0
        have r1 := HQ.out.c1
        have r2 := HQ.out.c2
        have rz0 := frozen_of_row _ _ 0 _ _ HQ.out
        have rz1 := frozen_of_row _ _ 1 _ _ HQ.out
        have rz2 := frozen_of_row _ _ 2 _ _ HQ.out
        have HZ := Lib.hid (((HB.out.setCell (show w.heap.size ≤ (⟨w.heap.size, 0, none⟩ : Addr).block from Nat.le_refl _) (.int .i64 0)).setCell (show w.heap.size ≤ (⟨w.heap.size, 1, none⟩ : Addr).block from Nat.le_refl _) (.int .i64 0)).setCell (show w.heap.size ≤ (⟨w.heap.size, 2, none⟩ : Addr).block from Nat.le_refl _) (.int .i64 0))
        go_wp2_with fail
        refine bodyPost_ret (v := .tuple #[.agg #[.int .i64 0, .int .i64 0, .int .i64 0], .bool false]) (by simp [results, Tryd.results21, go_sem, r0, r1, r2]) rfl ⟨by rw [HE.out]; rfl, HZ.out⟩
#print axioms dread_any
end Go.Proofs.YtfgicmekkjhlkaaDoor
