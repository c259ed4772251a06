/- The walk of RequestOrder. -/
import Derived.Test.YtecmccihldjicaaDoorReqX
import Derived.Test.YtecmccihldjicaaDoorReqS
namespace Go.Proofs.YtecmccihldjicaaDoor
open Go.RowKit
set_option linter.unusedVariables false
set_option linter.unusedSimpArgs false

theorem colon_at (f : Fld) (h : 0 < f.name.size) : colonB f = ((f.name[0].toNat : Int) == 58) := by
  unfold colonB
  have hh := head_byte f.name h
  cases hl : f.name.data.toList with
  | nil => rw [hl] at hh; cases hh
  | cons a t =>
    rw [hl] at hh
    obtain rfl : a = f.name[0] := by simpa using hh
    by_cases ha : f.name[0] = 58
    · rw [ha, hp_eq, hp_nil]; rfl
    · rw [hp_ne ha]
      exact (beq_eq_false_iff_ne.2 ((u8_ne _ 58).1 ha)).symm
theorem u8_nat {x : Int} (h : (Lit.int .u8 x).wf = true) : ∃ n : Nat, x = n ∧ n < 256 := by
  have e1 : IntKind.u8.min = 0 := rfl
  have e2 : IntKind.u8.max = 255 := rfl
  simp only [Lit.wf, Bool.and_eq_true, decide_eq_true_eq, e1, e2] at h
  exact ⟨x.toNat, by omega, by omega⟩
theorem add_three (b o k : Nat) : (⟨b, o, none⟩ : Addr).add k = ⟨b, o + k, none⟩ := by unfold Addr.add; split <;> simp_all
theorem colon_none (f : Fld) (h : f.name.size = 0) : colonB f = false := by
  unfold colonB
  have : f.name.data.toList = [] := List.length_eq_zero_iff.1 (by rw [← sz]; exact h)
  rw [this]
  rfl
set_option maxRecDepth 100000 in
set_option maxHeartbeats 16000000 in
theorem order17_any (oa : Option Addr) (n cap : Nat) (L : List Fld) (hn : L.length = n) (hcap : n ≤ cap) (en : Bool) (t : Nat) (w : World) (hT : Tab w) (hM : MaxC w) (hf : FieldsN w oa L) (ht : t < 256) :
    Calls Tryd.prog 7 #[.slice oa n cap, .bool en, .int .u8 (t : Int)] w fun e w' => e = .returned (.bool true) ∧ Below w.heap.size w w' := by
  obtain ⟨i0, hi0, hz0, hz1, hz2⟩ := info_parts field_info
  have HI := Lib.hid hi0
  have HZ0 := Lib.hid hz0
  have HZ1 := Lib.hid hz1
  have HZ2 := Lib.hid hz2
  have HONE := Lib.hid (show ∀ (a b : ByteArray) (c : Bool), ∀ u ∈ [Value.string a, .string b, .bool c], u.oneCell' = true from by intro a b c u hu; simp at hu; rcases hu with rfl | rfl | rfl <;> rfl)
  have HTW := Lib.hid (show ∀ W, Below w.heap.size w W → Tab W from fun W hW => hT.below hW)
  have HMW := Lib.hid (show ∀ W, Below w.heap.size w W → MaxC W from fun W hW => hM.below hW)
  have HFW := Lib.hid (show ∀ W, Below w.heap.size w W → FieldsN W oa L from fun W hW => hf.below hW)
  have HLG := Lib.hid (light_any oa n cap L hn w hf)
  have HAW := Lib.hid (fun W (hW : Below w.heap.size w W) => awake17_any W (HTW.out W hW) (HMW.out W hW))
  have HBC := Lib.hid (Below.refl w.heap.size w)
  clear hi0 hz0 hz1 hz2
  cases hl : light L with
  | false =>
    rw [hl] at HLG
    clear hT hM hf hl
    go_enter Tryd.func7, Tryd.ntmps7
    go_wp2_with (first
      | (go_at_call 8; refine HLG.out.mono ?_; rintro e w1 ⟨rfl, hw⟩; obtain rfl := hw.symm)
      | (go_at_call 9; refine (HAW.out _ HBC.out).mono ?_; rintro e w2 ⟨rfl, hb⟩; replace HBC := Lib.hid (bs_st HBC.out hb); clear hb))
    go_ret
    exact ⟨rfl, HBC.out⟩
  | true =>
    rw [hl] at HLG
    have hn30 := light_len hl
    rw [hn] at hn30
    have hla : L.all lightF = true := by unfold light at hl; simp only [Bool.and_eq_true] at hl; exact hl.2
    have HN := Lib.hid hn
    have HLA := Lib.hid hla
    have HR := Lib.hid (fun W (hW : Below w.heap.size w W) => read_any oa n cap L hn (by omega) hla en W (HFW.out W hW) (HMW.out W hW))
    have hwt : IntKind.i64.wrap (t : Int) = (t : Int) := IntWalk.i64_in _ (by omega)
    clear hT hM hf hl hn hla
    go_enter Tryd.func7, Tryd.ntmps7
    go_wp2_with (first
      | (go_at_call 8; refine HLG.out.mono ?_; rintro e w1 ⟨rfl, hw⟩; obtain rfl := hw.symm))
    clear HLG
    go_loopw [7] (fun ii wr => ∃ k : Nat, ii = .int .i64 k ∧ k ≤ n ∧ (L.take k).all colonB = true ∧ wr = w) (fun ii _ => n - (intOf ii).toNat)
    case atStart => exact ⟨0, rfl, Nat.zero_le _, rfl, rfl⟩
    case round =>
      obtain ⟨k, rfl, hk, hd, hw⟩ := hrel
      obtain rfl := hw.symm
      have HD := Lib.hid hd
      clear hd hw
      have hw8 : IntKind.i64.wrap ((k : Int) + 1) = (k : Int) + 1 := IntWalk.i64_in _ (by omega)
      by_cases hgo : ∃ f, L[k]? = some f ∧ colonB f = true
      · obtain ⟨f, hfk, hcf⟩ := hgo
        have hlt : k < n := by rw [← HN.out]; exact (List.getElem?_eq_some_iff.1 hfk).1
        have HTK := Lib.hid (show (L.take (k + 1)).all colonB = true from by rw [take_fld hfk, List.all_append, HD.out]; simp [hcf])
        obtain ⟨b, o, hoa, hc0, hc1, hc2⟩ := (HFW.out _ (Below.refl _ _)) k f hfk
        subst hoa
        have hpos : 0 < f.name.size := by
          rcases Nat.eq_zero_or_pos f.name.size with h | h
          · rw [colon_none f h] at hcf; cases hcf
          · exact h
        have q58 : ((f.name[0].toNat : Int) == 58) = true := by rw [← colon_at f hpos]; exact hcf
        have q0 : decide ((0 : Int) < (f.name.size : Int)) = true := decide_eq_true (by omega)
        clear hfk hcf hc1 hc2
        go_wp2_with fail
        go_roundw
        case rel => exact ⟨k + 1, rfl, hlt, HTK.out, trivial⟩
        case measure => simp [intOf]; omega
      · have HFR : Hid (frontN L = k) := Lib.hid (by
          by_cases hlt : k < n
          · obtain ⟨f, hfk⟩ := get_fld (L := L) (k := k) (by rw [HN.out]; exact hlt)
            exact frontN_at L k f hfk HD.out (by cases h : colonB f; rfl; exact absurd ⟨f, hfk, h⟩ hgo)
          · have : L.take k = L := List.take_of_length_le (by rw [HN.out]; omega)
            rw [this] at HD
            rw [frontN_all HD.out, HN.out]; omega)
        have HEX : Hid ((¬ k < n) ∨ (∃ (f : Fld) (b o : Nat), oa = some ⟨b, o, none⟩ ∧ k < n ∧ f.name.size = 0 ∧ w.cell? ⟨b, o + k * 3, none⟩ = some (.string f.name)) ∨ (∃ (f : Fld) (b o : Nat) (hp : 0 < f.name.size), oa = some ⟨b, o, none⟩ ∧ k < n ∧ ((f.name[0].toNat : Int) == 58) = false ∧ w.cell? ⟨b, o + k * 3, none⟩ = some (.string f.name))) := Lib.hid (by
          by_cases hlt : k < n
          · right
            obtain ⟨f, hfk⟩ := get_fld (L := L) (k := k) (by rw [HN.out]; exact hlt)
            obtain ⟨b, o, hoa, hc0, _⟩ := (HFW.out _ (Below.refl _ _)) k f hfk
            have hcf : colonB f = false := by cases h : colonB f; rfl; exact absurd ⟨f, hfk, h⟩ hgo
            rcases Nat.eq_zero_or_pos f.name.size with h | h
            · exact .inl ⟨f, b, o, hoa, hlt, h, hc0⟩
            · exact .inr ⟨f, b, o, h, hoa, hlt, by rw [← colon_at f h]; exact hcf, hc0⟩
          · exact .inl hlt)
        have HHC : Hid ((L.take k).all colonB = true) := HD
        have HTC : Hid (∀ f, (L.drop k).head? = some f → colonB f = false) := Lib.hid (by rw [← HFR.out]; exact (front_split L).2)
        have HLH : Hid ((L.take k).length = k) := Lib.hid (by rw [List.length_take, HN.out]; omega)
        obtain ⟨ho1, ho2⟩ := order_law (rotL_perm (L.take k) t) HHC.out HTC.out en
        rw [List.take_append_drop] at ho1 ho2
        have HRL : Hid ((rotL (L.take k) t).length = k) := Lib.hid (by rw [rotL_len]; exact HLH.out)
        have hlen2 : (rotL (L.take k) t ++ L.drop k).length = n := by rw [List.length_append, HRL.out, List.length_drop, HN.out]; omega
        have HLN2 := Lib.hid hlen2
        have hla2 : (rotL (L.take k) t ++ L.drop k).all lightF = true := by
          rw [List.all_append, Bool.and_eq_true]
          exact ⟨List.all_eq_true.2 fun x hx => List.all_eq_true.1 HLA.out x (List.mem_of_mem_take ((rotL_perm (L.take k) t).mem_iff.2 hx)), List.all_eq_true.2 fun x hx => List.all_eq_true.1 HLA.out x (List.mem_of_mem_drop hx)⟩
        have HR2 := Lib.hid (fun o7 c7 W (hW : Below w.heap.size w W) hf => read_any o7 n c7 (rotL (L.take k) t ++ L.drop k) hlen2 (by omega) hla2 en W hf (HMW.out W hW))
        rw [← ho1, ← ho2] at HR2
        obtain ⟨m, s, p, hst, len, rank, q3⟩ := reqV_form (readS L en)
        rw [q3] at HR HR2
        generalize (readS L en).isSome = bi at HR HR2
        have HFD : Hid (∀ W, Below w.heap.size w W → FieldsN W (if cap = k then oa else Option.map (fun x => x.add (k * 3)) oa) (L.drop k)) := Lib.hid (fun W hW => by
          have hf := HFW.out W hW
          by_cases hc : cap = k
          · have : L.drop k = [] := List.drop_eq_nil_of_le (by rw [HN.out]; omega)
            rw [this]; exact FieldsN.nil _ _
          · rw [if_neg hc]
            cases oa with
            | none => have := FieldsN.none_nil hf; rw [this]; simp; exact FieldsN.nil _ _
            | some a =>
              cases hL : L with
              | nil => simp; exact FieldsN.nil _ _
              | cons f t =>
                rw [hL] at hf
                obtain ⟨b, o, e, _⟩ := hf 0 f rfl
                injection e with e
                subst e
                have e : (⟨b, o, none⟩ : Addr).add (k * 3) = ⟨b, o + k * 3, none⟩ := by unfold Addr.add; split <;> simp_all
                simp only [Option.map_some, e]
                exact FieldsN.drop hf)
        have HDL : Hid ((L.drop k).length = n - k) := Lib.hid (by rw [List.length_drop, HN.out])
        have hwd : IntKind.i64.wrap ((n : Int) - (k : Int)) = ((n - k : Nat) : Int) := by rw [IntWalk.i64_in _ (by omega)]; omega
        have HRA := Lib.hid (show ∀ j x g, j < k → x = (j + t) % k → L[x]? = some g → (rotL (L.take k) t).take (j + 1) = (rotL (L.take k) t).take j ++ [g] from fun j x g hj hx hg => by
          have h1 := rotL_at (L.take k) t j (by rw [HLH.out]; exact hj)
          rw [HLH.out, ← hx, List.getElem?_take, if_pos (by rw [hx]; exact Nat.mod_lt _ (by omega)), hg] at h1
          exact take_fld h1)
        have HRT : Hid ((rotL (L.take k) t).take k = rotL (L.take k) t) := Lib.hid (List.take_of_length_le (by rw [HRL.out]; exact Nat.le_refl _))
        clear hlen2 hla2 ho1 ho2 q3 hgo HLA HTC HHC HFR HLH hw
        generalize rotL (L.take k) t = M at HR2 HRL HLN2 HRA HRT
        rcases HEX.out with hlt | ⟨f, b, o, rfl, hlt, hsz, hc0⟩ | ⟨f, b, o, hpos, rfl, hlt, q58, hc0⟩
        all_goals
          (try have q0 : decide ((0 : Int) < (f.name.size : Int)) = true := decide_eq_true (by omega))
          (try have q0 : decide ((0 : Int) < (f.name.size : Int)) = false := decide_eq_false (by omega))
          clear HEX
          go_wp2_with fail
          (try clear q58)
          (try clear hc0)
          go_loopw [8, 9] (fun ov ii wr => ∃ (j : Nat) (vv : Value), ov = vv ∧ ii = .int .i64 j ∧ j ≤ k ∧ OwnF wr w.heap.size vv (M.take j) ∧ Below w.heap.size w wr) (fun _ ii _ => k - (intOf ii).toNat)
          case atStart => exact ⟨0, _, rfl, rfl, Nat.zero_le _, World.ownsRow_nil _ _ _ _, Below.refl _ _⟩
          case round =>
            obtain ⟨j, v, hv, rfl, hj, hown, hb⟩ := hrel
            obtain rfl := hv.symm
            have HO := Lib.hid hown
            have HB := Lib.hid hb
            clear hown hb hv
            by_cases hjk : j < k
            · have hw9 : IntKind.i64.wrap ((j : Int) + 1) = (j : Int) + 1 := IntWalk.i64_in _ (by omega)
              have hwj : IntKind.i64.wrap ((j : Int) + (t : Int)) = (j : Int) + (t : Int) := IntWalk.i64_in _ (by omega)
              obtain ⟨x, hx⟩ : ∃ x, x = (j + t) % k := ⟨_, rfl⟩
              have hxk : x < k := by rw [hx]; exact Nat.mod_lt _ (by omega)
              have hmod : Int.tmod ((j : Int) + (t : Int)) (k : Int) = (x : Int) := by rw [Int.tmod_eq_emod_of_nonneg (by omega), hx]; rfl
              have hwx : IntKind.i64.wrap (x : Int) = (x : Int) := IntWalk.i64_in _ (by omega)
              have hk0 : ((k : Int) == 0) = false := beq_eq_false_iff_ne.2 (by omega)
              have hk1 : ¬ (k : Int) = 0 := by omega
              have hk2 : ¬ k = 0 := by omega
              obtain ⟨g, hg⟩ := get_fld (L := L) (k := x) (by rw [HN.out]; omega)
              have HTK := Lib.hid (HRA.out j x g hjk hx hg)
              obtain ⟨b2, o2, hoa, hd0, hd1, hd2⟩ := (HFW.out _ HB.out) x g hg
              first | subst hoa | (obtain ⟨rfl, rfl, _⟩ := Addr.mk.inj (Option.some.inj hoa))
              have HVL := Lib.hid (show (M.take j).length ≤ 1000 from by rw [List.length_take]; omega)
              have HSZ := Lib.hid (show ∀ o : Obj, w.heap.size ≤ (wr.alloc o).heap.size from fun o => by have := HB.out.size; simp; omega)
              have q9 : decide ((j : Int) < (k : Int)) = true := decide_eq_true (by omega)
              have q10 : decide ((x : Int) < (n : Int)) = true := decide_eq_true (by omega)
              have hxn : x < n := by omega
              clear hg hx
              obtain ⟨nm, vl, nv⟩ := g
              simp only at hd0 hd1 hd2
              generalize M.take j = MJ at HO HTK HVL
              go_wp2_with (at_builtin; refine wpList_append_own_at _ rfl _ _ 22 rfl w.heap.size 42 i0 _ 3 40 Tryd.underlying22 HI.out HZ0.out HZ1.out HZ2.out rfl (by omega) _ _ _ rfl (World.ownsRow.alloc HO.out _) ⟨wr.heap.size, 0, none⟩ 1 1 [Value.string nm, .string vl, .bool nv] rfl rfl (cells_new wr [Value.string nm, .string vl, .bool nv] _) (HONE.out _ _ _) (by unfold maxLen; have := HVL.out; omega) (by have := HVL.out; omega) (HSZ.out _) ?_; intro v7 w7 hown7 hg7 _ _; have HB7 := Lib.hid ((HB.out.alloc HB.out.size _).grown hg7 (HSZ.out _) (fun q hq => (World.ownsRow.lt HO.out q hq).1)); have HO7 := Lib.hid (show OwnF w7 w.heap.size v7 (MJ ++ [⟨nm, vl, nv⟩]) from by unfold OwnF; rw [fcells_append, List.length_append]; exact (by simpa [fcells, Fld.cells] using hown7)); clear hown7 hg7)
              go_roundw
              case rel => exact ⟨j + 1, _, rfl, rfl, hjk, by rw [HTK.out]; exact HO7.out, HB7.out⟩
              case measure => simp [intOf]; omega
            · obtain rfl : j = k := by omega
              rw [HRT.out] at HO
              have q9 : decide ((j : Int) < (j : Int)) = false := by simp
              replace HBC := HB
              have HOL := Lib.hid (fun q hq => (World.ownsRow.lt HO.out q hq).2)
              clear HRA HRT
              rcases Decidable.em (cap = j) with hcj | hcj
              try any_goals (exfalso; omega)
              all_goals
                first | (obtain rfl := hcj.symm; simp only [if_true] at HFD) | simp only [if_neg hcj] at HFD
                go_upto_region 12 with (first | (go_at_call 10; refine (HR.out _ HBC.out).mono ?_; rintro e w2 ⟨rfl, hb⟩; replace HBC := Lib.hid (bs_st HBC.out hb); replace HO := Lib.hid (HO.out.step hb); have HSZ2 := Lib.hid hb.size; clear hb))
                have hb := (Below.refl w2.heap.size w2).alloc (Nat.le_refl _) (.cells #[.string m, .string s, .string p, .string hst, .int .i64 len, .int .i64 rank] 26)
                replace HBC := Lib.hid (bs_st HBC.out hb)
                replace HO := Lib.hid (HO.out.step hb)
                have HQ := Lib.hid (show QRow 26 (w2.alloc (.cells #[.string m, .string s, .string p, .string hst, .int .i64 len, .int .i64 rank] 26)) w2.heap.size m s p hst len rank from heap_alloc_new w2 _)
                have HGE : Hid (wr.heap.size ≤ w2.heap.size) := HSZ2
                clear hb HSZ2
                generalize w2.alloc (.cells #[.string m, .string s, .string p, .string hst, .int .i64 len, .int .i64 rank] 26) = w3 at HBC HQ HO ⊢
                generalize w2.heap.size = g at HQ HGE ⊢
                go_upto_region 13 with (first
                  | (at_builtin; refine wpList_appF rfl _ _ rfl w.heap.size _ M rfl HO.out _ _ _ (L.drop j) rfl ?_ ?_ ?_ ?_ HBC.out.size ?_; (have hx1 := HDL.out; omega); (omega); (first | exact HFD.out _ HBC.out | (have hfd := HFD.out _ HBC.out; simp only [Option.map_some, add_three] at hfd; exact hfd)); (have := HRL.out; omega); intro v7 w7 ho7 hb7 hk7; replace HO := Lib.hid ho7; replace HBC := Lib.hid (HBC.out.trans hb7); replace HQ : Hid (QRow 26 w7 g m s p hst len rank) := Lib.hid ((hk7 g HQ.out.lt (fun e => by have := HOL.out g e; have := HGE.out; omega)).trans HQ.out); obtain ⟨o7, c7, hv7, hf7, _⟩ := HO.out.form; rw [HLN2.out] at hv7; obtain rfl := hv7; have HF7 := Lib.hid hf7; clear ho7 hb7 hk7 hf7)
                  | (go_at_call 10; refine (HR2.out _ _ _ HBC.out HF7.out).mono ?_; rintro e w8 ⟨rfl, hb⟩; replace HBC := Lib.hid (bs_st HBC.out hb); replace HQ := Lib.hid (HQ.out.below hb HQ.out.lt); clear hb))
                have hb := (Below.refl w8.heap.size w8).alloc (Nat.le_refl _) (.cells #[.string m, .string s, .string p, .string hst, .int .i64 len, .int .i64 rank] 26)
                replace HBC := Lib.hid (bs_st HBC.out hb)
                replace HQ := Lib.hid (HQ.out.below hb HQ.out.lt)
                have HQ2 := Lib.hid (show QRow 26 (w8.alloc (.cells #[.string m, .string s, .string p, .string hst, .int .i64 len, .int .i64 rank] 26)) w8.heap.size m s p hst len rank from heap_alloc_new w8 _)
                clear hb
                generalize w8.alloc (.cells #[.string m, .string s, .string p, .string hst, .int .i64 len, .int .i64 rank] 26) = w10 at HBC HQ HQ2 ⊢
                generalize w8.heap.size = g2 at HQ2 ⊢
                have y0 := cell_of_row _ g 0 _ _ _ HQ.out
                have y1 := cell_of_row _ g 1 _ _ _ HQ.out
                have y2 := cell_of_row _ g 2 _ _ _ HQ.out
                have y3 := cell_of_row _ g 3 _ _ _ HQ.out
                have y4 := cell_of_row _ g 4 _ _ _ HQ.out
                have y5 := cell_of_row _ g 5 _ _ _ HQ.out
                have z0 := cell_of_row _ g2 0 _ _ _ HQ2.out
                have z1 := cell_of_row _ g2 1 _ _ _ HQ2.out
                have z2 := cell_of_row _ g2 2 _ _ _ HQ2.out
                have z3 := cell_of_row _ g2 3 _ _ _ HQ2.out
                have z4 := cell_of_row _ g2 4 _ _ _ HQ2.out
                have z5 := cell_of_row _ g2 5 _ _ _ HQ2.out
                go_wp2_with (first | (go_at_call 9; refine (HAW.out _ HBC.out).mono ?_; rintro e w9 ⟨rfl, hb⟩; replace HBC := Lib.hid (bs_st HBC.out hb); clear hb))
                go_ret
                exact ⟨rfl, HBC.out⟩
end Go.Proofs.YtecmccihldjicaaDoor
