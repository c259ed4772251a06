/- repr.Get: the walk. -/
import Derived.Test.YteceinojmdgmeaaC13
import Derived.Test.YteceinojmdgmeaaC14
import Derived.Deep.Cut
import Derived.Deep.DeepCutAuto
import Derived.Maps.AppendAt
namespace Go.Proofs.Yteceinojmdgmeaa
open Go.RowKit
set_option linter.unusedVariables false
set_option linter.unusedSimpArgs false

def ptrV (q : Nat) (p : Bool) : Value := .pointer (some ⟨q, if p then 3 else 2, none⟩)
theorem sptr_info : (Try.prog.info? 146).map (fun i => (i.zero, i.size, i.bytes)) = some (some (.pointer none), 1, 8) := by kernel_rfl
def PtrsN (W : World) (B : Nat) (oa : Option Addr) (q : Nat) (ps : List Bool) : Prop := ∀ i p, ps[i]? = some p → ∃ b, oa = some ⟨b, 0, none⟩ ∧ B ≤ b ∧ b < W.heap.size ∧ W.cell? ⟨b, i, none⟩ = some (ptrV q p)
theorem ptrs_of {W : World} {B q : Nat} {pv : Value} {ps : List Bool} (h : W.ownsRow B 146 1 pv ps.length (ps.map (ptrV q))) : ∃ oa cap, pv = .slice oa ps.length cap ∧ PtrsN W B oa q ps := by
  rcases h.2 with ⟨hv, h0⟩ | ⟨g, cap, cur, hv, hB, hg, hn, hc, hs, ht⟩
  · refine ⟨none, 0, by rw [hv, h0], fun i p hp => ?_⟩
    have := List.length_eq_zero_iff.1 h0
    subst this
    simp at hp
  · refine ⟨some ⟨g, 0, none⟩, cap, hv, fun i p hp => ⟨g, rfl, hB, ?_, ?_⟩⟩
    · rcases Nat.lt_or_ge g W.heap.size with h | h
      · exact h
      · rw [Array.getElem?_eq_none h] at hg; simp at hg
    · have hi : i < ps.length := (List.getElem?_eq_some_iff.1 hp).1
      have h2 : (cur.toList.take (ps.length * 1))[i]? = some (ptrV q p) := by rw [ht, List.getElem?_map, hp]; rfl
      rw [List.getElem?_take_of_lt (by omega)] at h2
      exact cell_of_row _ _ _ _ _ _ hg |>.trans (by simpa using h2)
theorem PtrsN.step {W W' : World} {B q : Nat} {oa : Option Addr} {ps : List Bool} (h : PtrsN W B oa q ps) (hb : Below W.heap.size W W') : PtrsN W' B oa q ps := fun i p hp => by
  obtain ⟨b, e, h1, h2, h3⟩ := h i p hp
  exact ⟨b, e, h1, Nat.lt_of_lt_of_le h2 hb.size, (cell_eq (a := ⟨b, i, none⟩) (hb.block b h2)).trans h3⟩
theorem PtrsN.other {W : World} {B q : Nat} {oa : Option Addr} {ps : List Bool} (h : PtrsN W B oa q ps) (c j : Nat) (hc : c < B) (x : Value) : PtrsN (W.setCell ⟨c, j, none⟩ x) B oa q ps := fun i p hp => by
  obtain ⟨b, e, h1, h2, h3⟩ := h i p hp
  exact ⟨b, e, h1, by simpa using h2, (cell_eq (a := ⟨b, i, none⟩) (Below.heap_setCell _ _ _ _ (fun e => by simp at e; omega))).trans h3⟩
theorem goParts_get (bs : List Nat) (ps : List Bool) (j : Nat) (hj : j < ps.length) (x : Itm) (a : Nat) : goParts bs (ps.drop j) x a = if (textG (bs.drop a)).2.2 ≠ 0 then (Itm.zero, 0, (textG (bs.drop a)).2.2) else goParts bs (ps.drop (j + 1)) (x.put ps[j] (textG (bs.drop a)).1) (a + (textG (bs.drop a)).2.1) := by
  rw [List.drop_eq_getElem_cons hj]; rfl
set_option maxRecDepth 100000 in
set_option maxHeartbeats 4000000 in
theorem rget_any (oa : Option Addr) (n cap : Nat) (bs : List Nat) (hn : bs.length = n) (hnc : n ≤ cap) (hn100 : n ≤ 1000000) (w : World) (hby : BytesN w oa bs) (hb256 : ∀ i, i < bs.length → bs.getD i 0 < 256) :
    Calls Try.prog 79 #[.slice oa n cap] w (GetPostI bs w) := by
  have HN := Lib.hid hn
  have HBY := Lib.hid hby
  have H256 := Lib.hid hb256
  have HQ := Lib.hid (IRow.new w 0 0 ⟨#[]⟩ ⟨#[]⟩)
  have HB := Lib.hid ((Below.refl w.heap.size w).alloc (Nat.le_refl _) (.cells #[.int .u8 ((0 : Nat) : Int), .int .i64 0, .string ⟨#[]⟩, .string ⟨#[]⟩] 49))
  have HS := Lib.hid (show (w.alloc (.cells #[.int .u8 ((0 : Nat) : Int), .int .i64 0, .string ⟨#[]⟩, .string ⟨#[]⟩] 49)).heap.size = w.heap.size + 1 from by simp)
  clear hn hby hb256
  cases bs with
  | nil =>
    obtain rfl := HN.out
    have HE := Lib.hid (show itemG [] = (Itm.zero, 0, 3) from rfl)
    go_enter Try.func79, Try.ntmps79
    go_wp2_with fail
    refine bodyPost_ret (v := .tuple #[.agg #[.int .u8 0, .int .i64 0, .string ⟨#[]⟩, .string ⟨#[]⟩], .int .i64 0, .int .i64 3]) (by simp [results, Try.results79, go_sem]) rfl ⟨by rw [HE.out]; rfl, HB.out⟩
  | cons b0 bs' =>
    have hpos : 0 < n := by have := HN.out; simp at this; omega
    have hposi : (0 : Int) < (n : Int) := by omega
    have hn0 : ((n : Int) == 0) = false := by simp; omega
    have hbl : b0 < 256 := H256.out 0 (by simp)
    have HKI := Lib.hid (fun W => kind_any b0 hbl W)
    have hkl := kind_le b0
    have HFO := Lib.hid (fun W => form_any (kindN b0) hkl W)
    have hfk := (form_k4 (kindN b0) hkl).2
    have HGE := Lib.hid (fun W hW => get_any oa n cap (b0 :: bs') HN.out hn100 (formB (kindN b0)) hfk W hW H256.out)
    have HOK := Lib.hid (getN_ok (b0 :: bs') (formB (kindN b0)) hfk)
    have HTX := Lib.hid (fun W => texts_any (kindN b0) (by omega) W)
    have HIT := Lib.hid (show itemG (b0 :: bs') = if (getN (b0 :: bs') (formB (kindN b0))).2.2 ≠ 0 then (Itm.zero, 0, (getN (b0 :: bs') (formB (kindN b0))).2.2)
    else if kindN b0 = 0 ∧ (getN (b0 :: bs') (formB (kindN b0))).1 = 0 then (Itm.zero, 0, 4)
    else goParts (b0 :: bs') (partsOf (kindN b0) (getN (b0 :: bs') (formB (kindN b0))).1) ⟨kindN b0, ((getN (b0 :: bs') (formB (kindN b0))).1 : Nat), ByteArray.empty, ByteArray.empty⟩ (getN (b0 :: bs') (formB (kindN b0))).2.1 from rfl)
    obtain ⟨b, o, rfl, hc0⟩ := HBY.out.at (i := 0) (by simp)
    rw [List.getD_cons_zero, Nat.add_zero] at hc0
    have hblt : b < w.heap.size := World.block_lt_of_cell? _ _ hc0
    have hc1 := (cell_eq (a := ⟨b, o, none⟩) (HB.out.block b hblt)).trans hc0
    have HGE2 := Lib.hid (show ∀ W, BytesN W (some ⟨b, o, none⟩) (b0 :: bs') → Calls Try.prog 89 #[.slice (some ⟨b, o, none⟩) n cap, .int .i64 ((formB (kindN b0) : Nat) : Int)] W fun e w' => e = .returned (.tuple #[.int .i64 ((getN (b0 :: bs') (formB (kindN b0))).1 : Nat), .int .i64 ((getN (b0 :: bs') (formB (kindN b0))).2.1 : Nat), .int .i64 ((getN (b0 :: bs') (formB (kindN b0))).2.2 : Nat)]) ∧ Below W.heap.size W w' from HGE.out)
    clear HGE hfk
    generalize getN (b0 :: bs') (formB (kindN b0)) = g at HGE2 HOK HIT
    obtain ⟨m, at', er⟩ := g
    simp only at HGE2 HOK HIT
    generalize formB (kindN b0) = fb at HFO HGE2
    generalize formF (kindN b0) = ff at HFO
    generalize kindN b0 = kk at HKI hkl HFO HTX HIT
    go_enter Try.func79, Try.ntmps79
    go_upto_region 3 with fail
    generalize hW : w.alloc (.cells #[.int .u8 0, .int .i64 0, .string ⟨#[]⟩, .string ⟨#[]⟩] 49) = w1 at HQ HB HS hc1 ⊢
    clear hW hc0
    go_wp2_with fail
    refine (HKI.out _).mono ?_
    rintro e w2 ⟨rfl, hw⟩
    subst hw
    have HX := Lib.hid (IRow.new w2 kk 0 ⟨#[]⟩ ⟨#[]⟩)
    have HQ2 := Lib.hid (HQ.out.alloc (.cells #[.int .u8 (kk : Int), .int .i64 0, .string ⟨#[]⟩, .string ⟨#[]⟩] 49))
    have HB2 := Lib.hid (HB.out.alloc HB.out.size (.cells #[.int .u8 (kk : Int), .int .i64 0, .string ⟨#[]⟩, .string ⟨#[]⟩] 49))
    go_upto_region 4 with fail
    generalize w2.alloc (.cells #[.int .u8 (kk : Int), .int .i64 0, .string ⟨#[]⟩, .string ⟨#[]⟩] 49) = w3 at HX HQ2 HB2 ⊢
    rw [HS.out] at HX ⊢
    clear HQ HB hc1 HS
    have x0 := HX.out.c0
    go_wp2_with fail
    refine (HFO.out _).mono ?_
    rintro e w4 ⟨rfl, hw⟩
    subst hw
    go_wp2_with fail
    refine (HGE2.out _ (HBY.out.below HB2.out)).mono ?_
    rintro e w5 ⟨rfl, hb⟩
    have HX5 := Lib.hid (HX.out.step hb)
    have HQ5 := Lib.hid (HQ2.out.step hb)
    have HB5 := Lib.hid (HB2.out.trans (hb.mono HB2.out.size))
    clear hb HX HQ2 HB2 x0
    have x0 := HX5.out.c0
    have x1 := HX5.out.c1
    have xz1 := HX5.out.z 1
    have r0 := HQ5.out.c0
    have r1 := HQ5.out.c1
    have r2 := HQ5.out.c2
    have r3 := HQ5.out.c3
    have rz0 := HQ5.out.z 0
    have rz1 := HQ5.out.z 1
    have rz2 := HQ5.out.z 2
    have rz3 := HQ5.out.z 3
    have HZB := Lib.hid ((((HB5.out.setCell (show w.heap.size ≤ (⟨w.heap.size, 0, none⟩ : Addr).block from Nat.le_refl _) (.int .u8 0)).setCell (show w.heap.size ≤ (⟨w.heap.size, 1, none⟩ : Addr).block from Nat.le_refl _) (.int .i64 0)).setCell (show w.heap.size ≤ (⟨w.heap.size, 2, none⟩ : Addr).block from Nat.le_refl _) (.string ⟨#[]⟩)).setCell (show w.heap.size ≤ (⟨w.heap.size, 3, none⟩ : Addr).block from Nat.le_refl _) (.string ⟨#[]⟩))
    by_cases her : er = 0
    · subst her
      obtain ⟨h1, h2, h3⟩ := HOK.out rfl
      rw [HN.out] at h2
      have HIT1 := Lib.hid (HIT.out.trans (if_neg (fun h => h rfl)))
      by_cases hkm : kk = 0 ∧ m = 0
      · obtain ⟨rfl, rfl⟩ := hkm
        have HE := Lib.hid (HIT1.out.trans (if_pos ⟨rfl, rfl⟩))
        go_wp2_with fail
        refine bodyPost_ret (v := .tuple #[.agg #[.int .u8 0, .int .i64 0, .string ⟨#[]⟩, .string ⟨#[]⟩], .int .i64 0, .int .i64 4]) (by simp [results, Try.results79, go_sem, r0, r1, r2, r3]) rfl ⟨by rw [HE.out]; rfl, HZB.out⟩
      · have HIT2 := Lib.hid (HIT1.out.trans (if_neg hkm))
        have hkb : ((kk : Int) == 0) = true ∧ ((m : Int) == 0) = false ∨ ((kk : Int) == 0) = false := by
          by_cases hk0 : kk = 0
          · exact .inl ⟨by simp [hk0], by simp; omega⟩
          · exact .inr (by simp; omega)
        have HX6 := Lib.hid (HX5.out.set1 (m : Int))
        have HQ6 := Lib.hid (HQ5.out.other (w.heap.size + 1) 1 (by omega) (.int .i64 (m : Int)))
        have HB6 := Lib.hid (HB5.out.setCell (show w.heap.size ≤ (⟨w.heap.size + 1, 1, none⟩ : Addr).block from Nat.le_succ _) (.int .i64 (m : Int)))
        have HPS := Lib.hid (show partsOf kk m = if litK kk then (if m = 0 then [false, true] else [true]) else [] from rfl)
        obtain ⟨i0, hi0, hz0, hz1, hz2⟩ := info_parts sptr_info
        have HI := Lib.hid hi0
        have HZ0 := Lib.hid hz0
        have HZ1 := Lib.hid hz1
        have HZ2 := Lib.hid hz2
        clear hi0 hz0 hz1 hz2 hkm r0 r1 r2 r3 rz0 rz1 rz2 rz3 HZB
        have HLT1 := Lib.hid (show w.heap.size + 1 < w5.heap.size from HX5.out.lt)
        rcases hkb with ⟨q7, q8⟩ | q7
        all_goals
          go_upto_region 11 with fail
          generalize w5.setCell ⟨w.heap.size + 1, 1, none⟩ (.int .i64 (m : Int)) = w6 at HX6 HQ6 HB6 ⊢
          clear x0 x1 xz1
          have x0 := HX6.out.c0
          go_wp2_with fail
          refine (HTX.out _).mono ?_
          rintro e w7 ⟨rfl, hw⟩
          subst hw
          go_upto_if 55 with fail
          go_cut [11] (fun pp wx => ∃ pv, pp = pv ∧ wx.ownsRow (w.heap.size + 2) 146 1 pv (partsOf kk m).length ((partsOf kk m).map (ptrV (w.heap.size + 1))) ∧ IRow wx (w.heap.size + 1) kk (m : Int) ⟨#[]⟩ ⟨#[]⟩ ∧ IRow wx w.heap.size 0 0 ⟨#[]⟩ ⟨#[]⟩ ∧ Below w.heap.size w wx)
          case first =>
            have HNIL := Lib.hid (World.ownsRow_nil w7 (w.heap.size + 2) 146 1)
            cases hl : litK kk
            · have hps : partsOf kk m = [] := by rw [HPS.out, hl]; rfl
              have HPX := Lib.hid hps
              clear hps
              go_wp2_with fail
              go_meet
              exact ⟨_, rfl, (by rw [HPX.out]; exact HNIL.out), HX6.out, HQ6.out, HB6.out⟩
            · by_cases hm0 : m = 0
              · first
                | (exfalso; subst hm0; simp at q8; done)
                | (have hps : partsOf kk m = [false, true] := by rw [HPS.out, hl, if_pos rfl, if_pos hm0]
                   have HPX := Lib.hid hps
                   have hmb : ((m : Int) == 0) = true := by simp [hm0]
                   clear hm0 hps
                   have HL8 := Lib.hid (HB6.out.alloc HB6.out.size (.cells #[.pointer (some ⟨w.heap.size + 1, 2, none⟩)] 146)).size
                   have HLL8 := Lib.hid (show w.heap.size + 2 ≤ (w7.alloc (.cells #[.pointer (some ⟨w.heap.size + 1, 2, none⟩)] 146)).heap.size from by have := HX6.out.lt; have h2 := ((Below.refl w7.heap.size w7).alloc (Nat.le_refl _) (.cells #[.pointer (some ⟨w.heap.size + 1, 2, none⟩)] 146)).size; omega)
                   have hone : ∀ f : Nat, ∀ u ∈ [Value.pointer (some ⟨w.heap.size + 1, f, none⟩)], u.oneCell' = true := by intro f u hu; simp at hu; subst hu; rfl
                   go_wp2_with (at_builtin; first
                     | (refine wpList_append_own_at _ rfl _ _ 145 rfl (w.heap.size + 2) 146 i0 _ 1 8 Try.underlying145 HI.out HZ0.out HZ1.out HZ2.out rfl (by omega) (.slice none 0 0) 0 [] rfl (HNIL.out.alloc _) ⟨w7.heap.size, 0, none⟩ 1 1 [Value.pointer (some ⟨w.heap.size + 1, 2, none⟩)] rfl rfl (cells_new w7 [Value.pointer (some ⟨w.heap.size + 1, 2, none⟩)] _) (hone 2) (by unfold maxLen; omega) (by omega) HLL8.out ?_; intro v8 w8 hown8 hg8 _ _
                        have HO8 := Lib.hid hown8
                        have HB8 := Lib.hid ((HB6.out.alloc HB6.out.size _).grown hg8 HL8.out (fun q hq => by have := (World.ownsRow.lt HNIL.out q hq).1; omega))
                        have HX8 := Lib.hid (IRow.grown (HX6.out.alloc _) hg8 (fun g hg => by have := (World.ownsRow.lt HNIL.out g hg).1; omega))
                        have HQ8 := Lib.hid (IRow.grown (HQ6.out.alloc _) hg8 (fun g hg => by have := (World.ownsRow.lt HNIL.out g hg).1; omega))
                        clear hg8 hown8
                        have HL9 := Lib.hid (HB8.out.alloc HB8.out.size (.cells #[.pointer (some ⟨w.heap.size + 1, 3, none⟩)] 146)).size
                        have HLL9 := Lib.hid (show w.heap.size + 2 ≤ (w8.alloc (.cells #[.pointer (some ⟨w.heap.size + 1, 3, none⟩)] 146)).heap.size from by have := HX8.out.lt; have h2 := ((Below.refl w8.heap.size w8).alloc (Nat.le_refl _) (.cells #[.pointer (some ⟨w.heap.size + 1, 3, none⟩)] 146)).size; omega))
                     | (refine wpList_append_own_at _ rfl _ _ 145 rfl (w.heap.size + 2) 146 i0 _ 1 8 Try.underlying145 HI.out HZ0.out HZ1.out HZ2.out rfl (by omega) v8 _ _ rfl (HO8.out.alloc _) ⟨w8.heap.size, 0, none⟩ 1 1 [Value.pointer (some ⟨w.heap.size + 1, 3, none⟩)] rfl rfl (cells_new w8 [Value.pointer (some ⟨w.heap.size + 1, 3, none⟩)] _) (hone 3) (by unfold maxLen; omega) (by omega) HLL9.out ?_; intro v9 w9 hown9 hg9 _ _
                        have HO9 := Lib.hid hown9
                        have HB9 := Lib.hid ((HB8.out.alloc HB8.out.size _).grown hg9 HL9.out (fun q hq => by have := (World.ownsRow.lt HO8.out q hq).1; omega))
                        have HX9 := Lib.hid (IRow.grown (HX8.out.alloc _) hg9 (fun g hg => by have := (World.ownsRow.lt HO8.out g hg).1; omega))
                        have HQ9 := Lib.hid (IRow.grown (HQ8.out.alloc _) hg9 (fun g hg => by have := (World.ownsRow.lt HO8.out g hg).1; omega))
                        clear hg9 hown9))
                   go_meet
                   exact ⟨_, rfl, (by rw [HPX.out]; exact HO9.out), HX9.out, HQ9.out, HB9.out⟩)
              · have hps : partsOf kk m = [true] := by rw [HPS.out, hl, if_pos rfl, if_neg hm0]
                have HPX := Lib.hid hps
                have hmb : ((m : Int) == 0) = false := by simp; omega
                clear hps
                have HL8 := Lib.hid (HB6.out.alloc HB6.out.size (.cells #[.pointer (some ⟨w.heap.size + 1, 3, none⟩)] 146)).size
                have HLL8 := Lib.hid (show w.heap.size + 2 ≤ (w7.alloc (.cells #[.pointer (some ⟨w.heap.size + 1, 3, none⟩)] 146)).heap.size from by have := HX6.out.lt; have h2 := ((Below.refl w7.heap.size w7).alloc (Nat.le_refl _) (.cells #[.pointer (some ⟨w.heap.size + 1, 3, none⟩)] 146)).size; omega)
                have hone8 : ∀ u ∈ [Value.pointer (some ⟨w.heap.size + 1, 3, none⟩)], u.oneCell' = true := by intro u hu; simp at hu; subst hu; rfl
                go_wp2_with (at_builtin; refine wpList_append_own_at _ rfl _ _ 145 rfl (w.heap.size + 2) 146 i0 _ 1 8 Try.underlying145 HI.out HZ0.out HZ1.out HZ2.out rfl (by omega) (.slice none 0 0) 0 [] rfl (HNIL.out.alloc _) ⟨w7.heap.size, 0, none⟩ 1 1 [Value.pointer (some ⟨w.heap.size + 1, 3, none⟩)] rfl rfl (cells_new w7 [Value.pointer (some ⟨w.heap.size + 1, 3, none⟩)] _) hone8 (by unfold maxLen; omega) (by omega) HLL8.out ?_; intro v8 w8 hown8 hg8 _ _)
                have HO8 := Lib.hid hown8
                have HB8 := Lib.hid ((HB6.out.alloc HB6.out.size _).grown hg8 HL8.out (fun q hq => by have := (World.ownsRow.lt HNIL.out q hq).1; omega))
                have HX8 := Lib.hid (IRow.grown (HX6.out.alloc _) hg8 (fun g hg => by have := (World.ownsRow.lt HNIL.out g hg).1; omega))
                have HQ8 := Lib.hid (IRow.grown (HQ6.out.alloc _) hg8 (fun g hg => by have := (World.ownsRow.lt HNIL.out g hg).1; omega))
                clear hg8 hown8 hone8
                go_wp2_with fail
                go_meet
                exact ⟨_, rfl, (by rw [HPX.out]; exact HO8.out), HX8.out, HQ8.out, HB8.out⟩
          case rest =>
            obtain ⟨pv, rfl, hown, hx, hq, hb⟩ := hcut
            obtain ⟨oap, capp, rfl, hptr⟩ := ptrs_of hown
            have HPT := Lib.hid hptr
            have HX7 := Lib.hid hx
            have HQ7 := Lib.hid hq
            have HB7 := Lib.hid hb
            have HPL := Lib.hid (show (partsOf kk m).length ≤ 2 from by rw [HPS.out]; split; (split <;> simp); simp)
            clear hown hx hq hb hptr HX6 HQ6 HB6 x0 HPS HX5 HQ5 HB5 HIT HIT1 HLT1 HI HZ0 HZ1 HZ2 HTX HFO HGE2 HKI
            generalize partsOf kk m = ps at HPT HPL HIT2
            go_wp2_with fail
            go_loopw [9, 68] (fun aa i wr => ∃ (a j : Nat) (nm vl : ByteArray), aa = .int .i64 (a : Int) ∧ i = .int .i64 (j : Int) ∧ j ≤ ps.length ∧ 1 ≤ a ∧ a ≤ n ∧ itemG (b0 :: bs') = goParts (b0 :: bs') (ps.drop j) ⟨kk, m, nm, vl⟩ a ∧ IRow wr (w.heap.size + 1) kk m nm vl ∧ IRow wr w.heap.size 0 0 ⟨#[]⟩ ⟨#[]⟩ ∧ PtrsN wr (w.heap.size + 2) oap (w.heap.size + 1) ps ∧ Below w.heap.size w wr) (fun _ i _ => ps.length - (intOf i).toNat)
            case atStart => exact ⟨at', 0, _, _, rfl, rfl, Nat.zero_le _, h1, h2, HIT2.out, HX7.out, HQ7.out, HPT.out, HB7.out⟩
            case round =>
              obtain ⟨a, j, nm, vl, rfl, rfl, hj, ha1, han, hit, hxr, hqr, hptr, hbr⟩ := hrel
              have HXR := Lib.hid hxr
              have HQR := Lib.hid hqr
              have HPR := Lib.hid hptr
              have HBR := Lib.hid hbr
              have HITR := Lib.hid hit
              clear hit hxr hqr hptr hbr HX7 HQ7 HB7 HPT HIT2 HOK h1 h2
              by_cases hlt : j < ps.length
              · have hji : (j : Int) < (ps.length : Int) := by omega
                obtain ⟨pb, rfl, hpB, hplt, hpc⟩ := HPR.out j ps[j] (List.getElem?_eq_getElem hlt)
                have HGP := Lib.hid (HITR.out.trans (goParts_get (b0 :: bs') ps j hlt ⟨kk, m, nm, vl⟩ a))
                have HDL := Lib.hid (show ((b0 :: bs').drop a).length = n - a from by rw [List.length_drop, HN.out])
                have HD256 := Lib.hid (show ∀ i, i < ((b0 :: bs').drop a).length → ((b0 :: bs').drop a).getD i 0 < 256 from fun i hi => by
                  rw [List.length_drop] at hi
                  have := H256.out (a + i) (by omega)
                  simp only [List.getD_eq_getElem?_getD] at this ⊢
                  rw [List.getElem?_drop]
                  exact this)
                have HDB := Lib.hid (show BytesN w (some ⟨b, o + a, none⟩) ((b0 :: bs').drop a) from by
                  have := HBY.out.part a (n - a)
                  rwa [List.take_of_length_le (by rw [HDL.out]; exact Nat.le_refl _)] at this)
                have HTO := Lib.hid (textG_ok ((b0 :: bs').drop a))
                have HGT := Lib.hid (show ∀ oa cp ln, ln = n - a → n - a ≤ cp → ∀ W, BytesN W oa ((b0 :: bs').drop a) → Calls Try.prog 90 #[.slice oa ln cp] W fun e w' => e = .returned (.tuple #[.string (textG ((b0 :: bs').drop a)).1, .int .i64 ((textG ((b0 :: bs').drop a)).2.1 : Nat), .int .i64 ((textG ((b0 :: bs').drop a)).2.2 : Nat)]) ∧ Below W.heap.size W w' from fun oa cp ln he hc W hW => by subst he; exact getText_any oa (n - a) cp ((b0 :: bs').drop a) HDL.out hc (by omega) W hW HD256.out)
                rw [HDL.out] at HTO
                generalize ps[j] = p at hpc HGP
                generalize textG ((b0 :: bs').drop a) = t at HGT HGP HTO
                obtain ⟨s, k, er⟩ := t
                simp only at HGT HGP HTO
                have hw1 : IntKind.i64.wrap ((j : Int) + 1) = (j : Int) + 1 := IntWalk.i64_in _ (by have := HPL.out; omega)
                have hx1 : (0 : Int) ≤ (a : Int) := by omega
                have hx2 : (a : Int) ≤ (n : Int) := by omega
                have hx3 : (n : Int) ≤ (cap : Int) := by omega
                have r0 := HQR.out.c0
                have rz0 := HQR.out.z 0
                have hgo : ∃ oa2 cp ln, ln = n - a ∧ n - a ≤ cp ∧ BytesN w oa2 ((b0 :: bs').drop a) ∧ (a = cap ∧ oa2 = some ⟨b, o, none⟩ ∧ cp = 0 ∧ ln = 0 ∨ cap ≠ a ∧ oa2 = some ⟨b, o + a, none⟩ ∧ cp = cap - a ∧ ln = n - a) := by
                  by_cases hca : cap = a
                  · exact ⟨_, 0, 0, by omega, by omega, (fun i hi => by rw [HDL.out] at hi; omega), .inl ⟨hca.symm, rfl, rfl, rfl⟩⟩
                  · exact ⟨_, cap - a, _, rfl, by omega, HDB.out, .inr ⟨hca, rfl, rfl, rfl⟩⟩
                obtain ⟨oa2, cp, ln, hln, hcp, hby2, hca⟩ := hgo
                have HG2 := Lib.hid (fun W (hW : Below w.heap.size w W) => HGT.out oa2 cp ln hln hcp W (hby2.below hW))
                clear hby2 HGT hcp hln
                rcases hca with ⟨rfl, rfl, rfl, rfl⟩ | ⟨hne, rfl, rfl, rfl⟩
                all_goals
                  go_upto_region 20 with fail
                  refine (HG2.out _ HBR.out).mono ?_
                  rintro e wt ⟨rfl, hb⟩
                  have HXT := Lib.hid (HXR.out.step hb)
                  have HQT := Lib.hid (HQR.out.step hb)
                  have HPT := Lib.hid (HPR.out.step hb)
                  have HBT := Lib.hid (HBR.out.trans (hb.mono HBR.out.size))
                  clear hb HXR HQR HPR HBR HG2 hpc r0 rz0 HDB HD256 HITR hx1 hx2 hx3
                  have r0 := HQT.out.c0
                  have r1 := HQT.out.c1
                  have r2 := HQT.out.c2
                  have r3 := HQT.out.c3
                  have rz0 := HQT.out.z 0
                  have rz1 := HQT.out.z 1
                  have rz2 := HQT.out.z 2
                  have rz3 := HQT.out.z 3
                  by_cases her : er = 0
                  · subst her
                    obtain ⟨hk1, hk2⟩ := HTO.out rfl
                    clear r0 r1 r2 r3 rz0 rz1 rz2 rz3
                    have hw2 : IntKind.i64.wrap ((a : Int) + (k : Int)) = (a : Int) + (k : Int) := IntWalk.i64_in _ (by omega)
                    have HIT3 := Lib.hid (HGP.out.trans (if_neg (fun h => h rfl)))
                    first
                      | (exfalso; omega; done)
                      | (cases p
                         · rw [show ptrV (w.heap.size + 1) false = .pointer (some ⟨w.heap.size + 1, 2, none⟩) from rfl]
                           have x2 := HXT.out.c2
                           have xz2 := HXT.out.z 2
                           have HX8 := Lib.hid (HXT.out.set2 s)
                           have HQ8 := Lib.hid (HQT.out.other (w.heap.size + 1) 2 (by omega) (.string s))
                           have HP8 := Lib.hid (HPT.out.other (w.heap.size + 1) 2 (by omega) (.string s))
                           have HB8 := Lib.hid (HBT.out.setCell (show w.heap.size ≤ (⟨w.heap.size + 1, 2, none⟩ : Addr).block from Nat.le_succ _) (.string s))
                           clear HXT HQT HPT HBT
                           go_wp2_with fail
                           go_roundw
                           case rel => exact ⟨a + k, j + 1, s, vl, by go_num, by go_num, hlt, by omega, by omega, HIT3.out, HX8.out, HQ8.out, HP8.out, HB8.out⟩
                           case measure => simp [intOf]; omega
                         · rw [show ptrV (w.heap.size + 1) true = .pointer (some ⟨w.heap.size + 1, 3, none⟩) from rfl]
                           have x3 := HXT.out.c3
                           have xz3 := HXT.out.z 3
                           have HX8 := Lib.hid (HXT.out.set3 s)
                           have HQ8 := Lib.hid (HQT.out.other (w.heap.size + 1) 3 (by omega) (.string s))
                           have HP8 := Lib.hid (HPT.out.other (w.heap.size + 1) 3 (by omega) (.string s))
                           have HB8 := Lib.hid (HBT.out.setCell (show w.heap.size ≤ (⟨w.heap.size + 1, 3, none⟩ : Addr).block from Nat.le_succ _) (.string s))
                           clear HXT HQT HPT HBT
                           go_wp2_with fail
                           go_roundw
                           case rel => exact ⟨a + k, j + 1, nm, s, by go_num, by go_num, hlt, by omega, by omega, HIT3.out, HX8.out, HQ8.out, HP8.out, HB8.out⟩
                           case measure => simp [intOf]; omega)
                  · have q0 : ((er : Int) == 0) = false := by simp; omega
                    have HE := Lib.hid (HGP.out.trans (if_pos her))
                    have HZE := Lib.hid ((((HBT.out.setCell (show w.heap.size ≤ (⟨w.heap.size, 0, none⟩ : Addr).block from Nat.le_refl _) (.int .u8 0)).setCell (show w.heap.size ≤ (⟨w.heap.size, 1, none⟩ : Addr).block from Nat.le_refl _) (.int .i64 0)).setCell (show w.heap.size ≤ (⟨w.heap.size, 2, none⟩ : Addr).block from Nat.le_refl _) (.string ⟨#[]⟩)).setCell (show w.heap.size ≤ (⟨w.heap.size, 3, none⟩ : Addr).block from Nat.le_refl _) (.string ⟨#[]⟩))
                    go_wp2_with fail
                    refine bodyPost_ret (v := .tuple #[.agg #[.int .u8 0, .int .i64 0, .string ⟨#[]⟩, .string ⟨#[]⟩], .int .i64 0, .int .i64 (er : Int)]) (by simp [results, Try.results79, go_sem, r0, r1, r2, r3]) rfl ⟨by rw [HE.out]; rfl, HZE.out⟩
              · obtain rfl : j = ps.length := by omega
                have HE := Lib.hid (show itemG (b0 :: bs') = (⟨kk, m, nm, vl⟩, a, 0) from by rw [HITR.out, List.drop_length]; rfl)
                have x0 := HXR.out.c0
                have x1 := HXR.out.c1
                have x2 := HXR.out.c2
                have x3 := HXR.out.c3
                have r0 := HQR.out.c0
                have r1 := HQR.out.c1
                have r2 := HQR.out.c2
                have r3 := HQR.out.c3
                have rz0 := HQR.out.z 0
                have rz1 := HQR.out.z 1
                have rz2 := HQR.out.z 2
                have rz3 := HQR.out.z 3
                have HZX := Lib.hid ((((HBR.out.setCell (show w.heap.size ≤ (⟨w.heap.size, 0, none⟩ : Addr).block from Nat.le_refl _) (.int .u8 (kk : Int))).setCell (show w.heap.size ≤ (⟨w.heap.size, 1, none⟩ : Addr).block from Nat.le_refl _) (.int .i64 (m : Int))).setCell (show w.heap.size ≤ (⟨w.heap.size, 2, none⟩ : Addr).block from Nat.le_refl _) (.string nm)).setCell (show w.heap.size ≤ (⟨w.heap.size, 3, none⟩ : Addr).block from Nat.le_refl _) (.string vl))
                go_wp2_with fail
                refine bodyPost_ret (v := .tuple #[.agg #[.int .u8 (kk : Int), .int .i64 (m : Int), .string nm, .string vl], .int .i64 (a : Int), .int .i64 0]) (by simp [results, Try.results79, go_sem, r0, r1, r2, r3]) rfl ⟨by rw [HE.out]; rfl, HZX.out⟩
    · have q0 : ((er : Int) == 0) = false := by simp; omega
      have HE := Lib.hid (HIT.out.trans (if_pos her))
      go_wp2_with fail
      refine bodyPost_ret (v := .tuple #[.agg #[.int .u8 0, .int .i64 0, .string ⟨#[]⟩, .string ⟨#[]⟩], .int .i64 0, .int .i64 (er : Int)]) (by simp [results, Try.results79, go_sem, r0, r1, r2, r3]) rfl ⟨by rw [HE.out]; rfl, HZB.out⟩
end Go.Proofs.Yteceinojmdgmeaa

