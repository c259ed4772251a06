/- request.Read (draft, not yet clean). -/
import Derived.Test.YtecmccihldjicaaDoorReqJ
import Derived.Laws.ResultCell
import Derived.Laws.Tables
namespace Go.Proofs.YtecmccihldjicaaDoor
open Go.RowKit Go.Maps
set_option linter.unusedVariables false
set_option linter.unusedSimpArgs false

def reqV (o : Option Rd) : Value := match o with
  | some r => .agg #[.string r.m, .string r.s, .string r.p, .string r.h, .int .i64 r.len, .int .i64 r.rank]
  | none => .agg #[.string ⟨#[]⟩, .string ⟨#[]⟩, .string ⟨#[]⟩, .string ⟨#[]⟩, .int .i64 0, .int .i64 0]
theorem res_cell2 {P : Program} {fn : Func} {p u : Tmp} {ty : TypeId} (h : fn.results = #[.cell p ty, .tmp u]) (tmps : Array Value) (w : World) (g : Nat) (t : TypeId) (cs : Array Value) (fr : Nat × Nat) (d : TypeDesc)
    (hp : tmps.getD p undef = .pointer (some ⟨g, 0, none⟩)) (hg : w.heap[g]? = some (.cells cs t fr))
    (hu : P.underlying ty = some d) (hd : (match d with | .struct _ | .array _ _ => true | _ => false) = true) (hi : (P.info? ty).map (·.size) = some cs.size) (x : Value) (hx : tmps.getD u undef = x) :
    (results fn tmps).run P w = .ok (.tuple #[.agg cs, x]) w := by
  rw [results_cell_tmp h]
  have hp' : tmps[p]?.getD undef = .pointer (some ⟨g, 0, none⟩) := by simpa using hp
  have hx' : tmps[u]?.getD undef = x := by simpa using hx
  simp [hp', hx', asAddr, run_loadVar_row w g t ty cs fr d hg hu hd hi, Result.andThen]
def ZRow (W : World) (g : Nat) : Prop := W.heap[g]? = some (.cells #[.string ⟨#[]⟩, .string ⟨#[]⟩, .string ⟨#[]⟩, .string ⟨#[]⟩, .int .i64 0, .int .i64 0] 26 (0, 0))
theorem plSet_m (r : Rd) (L : List Fld) (f : Fld) : (plSet r L f).m = r.m := by
  unfold plSet
  repeat' split
  all_goals rfl
theorem psSet_m {r : Rd} {f : Fld} (h : r.m.size ≤ 200) (hf : f.value.size ≤ 200) : (psSet r f).m.size ≤ 200 := by
  unfold psSet
  repeat' split
  all_goals assumption
theorem below_setRow {B : Nat} {a w : World} (h : Below B a w) {g : Nat} (hg : B ≤ g) (cs : Array Value) : Below B a (w.setRow g cs) :=
  h.trans ⟨rfl, rfl, rfl, by simp [World.setRow], fun k hk => by
    show (w.heap.modify g _)[k]? = _
    rw [Array.getElem?_modify, if_neg (by omega)]⟩
theorem ZRow.lt {W : World} {g : Nat} (h : ZRow W g) : g < W.heap.size := World.block_lt_of_cell? W ⟨g, 0, none⟩ (cell_of_row _ _ 0 _ _ _ h)
theorem ZRow.below {W W' : World} {g B : Nat} (h : ZRow W g) (hb : Below B W W') (hg : g < B) : ZRow W' g := (hb.block g hg).trans h
set_option maxRecDepth 100000 in
set_option maxHeartbeats 4000000 in
theorem read_any (oa : Option Addr) (n cap : Nat) (L : List Fld) (hn : L.length = n) (hn2 : n ≤ 100) (hl : L.all lightF = true) (en : Bool) (w : World) (hf : FieldsN w oa L) (hM : MaxC w) :
    Calls Tryd.prog 10 #[.slice oa n cap, .bool en] w fun e w' => e = .returned (.tuple #[reqV (readS L en), .bool (readS L en).isSome]) ∧ Below w.heap.size w w' := by
  have HF := Lib.hid hf
  have HL := Lib.hid hl
  have HN := Lib.hid hn
  have HMX := Lib.hid hM
  clear hf hl hn hM
  have hmk := fun W => run_makeMap (P := Tryd.prog) 46 W
  go_enter Tryd.func10, Tryd.ntmps10
  go_wp2_with fail
  go_loopw [7, 17] (fun ff ii wr => ∃ (k : Nat) (r : Rd) (fr : Bool), ff = .bool fr ∧ ii = .int .i64 k ∧ k ≤ n ∧ r.m.size ≤ 200 ∧ readGo L rd0 [] true = readGo (L.drop k) r (L.take k) fr ∧ ZRow wr w.heap.size ∧ RdAt wr (w.heap.size + 2) (w.heap.size + 1) r ∧ SeenM wr (w.heap.size + 1) (L.take k) ∧ Below w.heap.size w wr) (fun _ ii _ => n - (intOf ii).toNat)
  case atStart =>
    have b1 := (Below.refl w.heap.size w).alloc (Nat.le_refl _) (.cells #[.string ⟨#[]⟩, .string ⟨#[]⟩, .string ⟨#[]⟩, .string ⟨#[]⟩, .int .i64 0, .int .i64 0] 26)
    refine ⟨0, rd0, true, rfl, rfl, Nat.zero_le _, Nat.zero_le _, rfl, ?_, ?_, ?_, ?_⟩
    · have z1 : ZRow (w.alloc (.cells #[.string ⟨#[]⟩, .string ⟨#[]⟩, .string ⟨#[]⟩, .string ⟨#[]⟩, .int .i64 0, .int .i64 0] 26)) w.heap.size := heap_alloc_new w _
      exact (Below.heap_alloc _ _ _ (by simp; omega)).trans ((Below.heap_alloc _ _ _ (by simp)).trans z1)
    · have := rd_new ((w.alloc (.cells #[.string ⟨#[]⟩, .string ⟨#[]⟩, .string ⟨#[]⟩, .string ⟨#[]⟩, .int .i64 0, .int .i64 0] 26)).alloc (.map #[] 0)) (w.heap.size + 1)
      simpa using this
    · have h1 := SeenM.made (w.alloc (.cells #[.string ⟨#[]⟩, .string ⟨#[]⟩, .string ⟨#[]⟩, .string ⟨#[]⟩, .int .i64 0, .int .i64 0] 26))
      have h2 := h1.below ((Below.refl _ _).alloc (Nat.le_refl _) (.cells #[.string ⟨#[]⟩, .string ⟨#[]⟩, .string ⟨#[]⟩, .string ⟨#[]⟩, .int .i64 (-1), .int .i64 3, .map (some (w.heap.size + 1)), .string ⟨#[]⟩] 48))
      simpa using h2
    · exact (b1.alloc (by simp) _).alloc (by simp; omega) _
  case round =>
    obtain ⟨k, r, fr, rfl, rfl, hk, hrm, hgo, hzr, hrd, hsn, hb⟩ := hrel
    have HGO := Lib.hid hgo
    have HZR := Lib.hid hzr
    have HRD := Lib.hid hrd
    have HSN := Lib.hid hsn
    have HB := Lib.hid hb
    clear hgo hzr hrd hsn hb
    by_cases hlt : k < n
    · have q1 : decide ((k : Int) < (n : Int)) = true := decide_eq_true (by omega)
      have hw8 : IntKind.i64.wrap ((k : Int) + 1) = (k : Int) + 1 := IntWalk.i64_in _ (by omega)
      obtain ⟨f, hfk⟩ := get_fld (L := L) (k := k) (by rw [HN.out]; exact hlt)
      have HTK := Lib.hid (take_fld hfk)
      have HDK := Lib.hid (readGo_drop hfk)
      have HLF := Lib.hid (show lightF f = true from List.all_eq_true.1 HL.out f (List.mem_of_getElem? hfk))
      obtain ⟨b, o, hoa, hc0, hc1, hc2⟩ := (HF.out.below HB.out) k f hfk
      subst hoa
      clear hfk
      have HA := Lib.hid ((Below.refl wr.heap.size wr).alloc (Nat.le_refl _) (.cells #[.string f.name, .string f.value, .bool f.never] 42))
      have HPF := Lib.hid (fun W' => Tryd.strings_HasPrefix f.name ⟨#[58]⟩ W')
      have e58 : (ByteArray.mk #[58]).data.toList = [58] := rfl
      rw [e58] at HPF
      have hps := HB.out.size
      have hkl : (L.take k).length ≤ 1000 := by rw [List.length_take]; omega
      have HRG : Hid (readGo L rd0 [] true = if colonB f then (if fr && psOk (L.take k) f then readGo (L.drop (k + 1)) (psSet r f) (L.take k ++ [f]) true else none) else (if plOk r (L.take k) f then readGo (L.drop (k + 1)) (plSet r (L.take k) f) (L.take k ++ [f]) false else none)) := Lib.hid (by rw [HGO.out, HDK.out]; rfl)
      have HCP := Lib.hid (pseudo_any (w.heap.size + 2) (w.heap.size + 1) (by omega) r (L.take k) hkl f HLF.out (w.heap.size + 1) (wr.alloc (.cells #[.string f.name, .string f.value, .bool f.never] 42)) (by omega) (by omega) (HRD.out.step HA.out) (HSN.out.below HA.out))
      have HCR := Lib.hid (rplain_any (w.heap.size + 2) (w.heap.size + 1) (by omega) r (L.take k) hkl f HLF.out (w.heap.size + 1) (wr.alloc (.cells #[.string f.name, .string f.value, .bool f.never] 42)) (by omega) (by omega) (HRD.out.step HA.out) (HSN.out.below HA.out) (fun W' hW => HMX.out.below (HB.out.trans ((HA.out.mono hps).trans (hW.mono (by omega))))))
      have hcbE : colonB f = Lib.hasPrefix f.name.data.toList [58] := rfl
      obtain ⟨cb, hcb⟩ : ∃ x, Lib.hasPrefix f.name.data.toList [58] = x := ⟨_, rfl⟩
      obtain ⟨po, hpo⟩ : ∃ x, psOk (L.take k) f = x := ⟨_, rfl⟩
      obtain ⟨pl, hpl⟩ : ∃ x, plOk r (L.take k) f = x := ⟨_, rfl⟩
      unfold PsPost at HCP
      unfold PlPost at HCR
      rw [hcb] at HPF hcbE
      rw [hcbE, hpo, hpl] at HRG
      rw [hpo] at HCP
      rw [hpl] at HCR
      clear hcb hcbE hpo hpl
      have HZA := Lib.hid ((HZR.out).below HA.out HZR.out.lt)
      have HBA : Hid (Below w.heap.size w (wr.alloc (.cells #[.string f.name, .string f.value, .bool f.never] 42))) := Lib.hid (HB.out.trans (HA.out.mono hps))
      cases cb
      · cases pl
        · have HNO : Hid (readS L en = none) := Lib.hid (by unfold readS; rw [HRG.out]; rfl)
          go_wp2_with (first | (go_at_call 23; with_reducible refine (HPF.out _).mono ?_; rintro e w6 ⟨rfl, hw6⟩; obtain rfl := hw6.symm) | (go_at_call 25; refine HCR.out.mono ?_; rintro e w7 ⟨rfl, hp7, hb7⟩; have HZ7 := Lib.hid (HZA.out.below hb7 (by omega)); have HB7 := Lib.hid (HBA.out.trans (hb7.mono (by omega))); have HR7 := Lib.hid hp7; clear hp7 hb7) | (refine wpList_store_row rfl _ _ _ rfl w.heap.size #[.string ⟨#[]⟩, .string ⟨#[]⟩, .string ⟨#[]⟩, .string ⟨#[]⟩, .int .i64 0, .int .i64 0] rfl rfl _ _ HZ7.out (by kernel_rfl) rfl (by kernel_rfl) ?_))
          exact bodyPost_ret (v := .tuple #[reqV none, .bool false]) (res_cell2 rfl _ _ w.heap.size _ _ (0, 0) _ rfl (setRow_heap _ _ _ _ _ _ HZ7.out) Tryd.underlying26 rfl (by kernel_rfl) _ rfl) rfl ⟨by rw [HNO.out]; rfl, below_setRow HB7.out (Nat.le_refl _) _⟩
        · have HRG2 : Hid (readGo L rd0 [] true = readGo (L.drop (k + 1)) (plSet r (L.take k) f) (L.take (k + 1)) false) := Lib.hid (by rw [HRG.out, HTK.out]; rfl)
          go_wp2_with (first | (go_at_call 23; with_reducible refine (HPF.out _).mono ?_; rintro e w6 ⟨rfl, hw6⟩; obtain rfl := hw6.symm) | (go_at_call 25; refine HCR.out.mono ?_; rintro e w7 ⟨rfl, hp7, hb7⟩; have HZ7 := Lib.hid (HZA.out.below hb7 (by omega)); have HB7 := Lib.hid (HBA.out.trans (hb7.mono (by omega))); have HR7 := Lib.hid hp7; clear hp7 hb7))
          go_roundw
          case rel =>
            obtain ⟨ra, rb⟩ := HR7.out trivial
            rw [← HTK.out] at rb
            exact ⟨k + 1, plSet r (L.take k) f, false, rfl, by simp, hlt, by rw [plSet_m]; exact hrm, HRG2.out, HZ7.out, ra, rb, HB7.out⟩
          case measure => simp [intOf]; omega
      · cases fr
        · have HNO : Hid (readS L en = none) := Lib.hid (by unfold readS; rw [HRG.out]; rfl)
          have HZ7 := HZA
          have HB7 := HBA
          go_wp2_with (first | (go_at_call 23; with_reducible refine (HPF.out _).mono ?_; rintro e w6 ⟨rfl, hw6⟩; obtain rfl := hw6.symm) | (refine wpList_store_row rfl _ _ _ rfl w.heap.size #[.string ⟨#[]⟩, .string ⟨#[]⟩, .string ⟨#[]⟩, .string ⟨#[]⟩, .int .i64 0, .int .i64 0] rfl rfl _ _ HZ7.out (by kernel_rfl) rfl (by kernel_rfl) ?_))
          exact bodyPost_ret (v := .tuple #[reqV none, .bool false]) (res_cell2 rfl _ _ w.heap.size _ _ (0, 0) _ rfl (setRow_heap _ _ _ _ _ _ HZ7.out) Tryd.underlying26 rfl (by kernel_rfl) _ rfl) rfl ⟨by rw [HNO.out]; rfl, below_setRow HB7.out (Nat.le_refl _) _⟩
        · cases po
          · have HNO : Hid (readS L en = none) := Lib.hid (by unfold readS; rw [HRG.out]; rfl)
            go_wp2_with (first | (go_at_call 23; with_reducible refine (HPF.out _).mono ?_; rintro e w6 ⟨rfl, hw6⟩; obtain rfl := hw6.symm) | (go_at_call 24; refine HCP.out.mono ?_; rintro e w7 ⟨rfl, hp7, hs7, hb7⟩; have HZ7 := Lib.hid (HZA.out.below hb7 (by omega)); have HB7 := Lib.hid (HBA.out.trans (hb7.mono (by omega))); have HR7 := Lib.hid (And.intro hp7 hs7); clear hp7 hs7 hb7) | (refine wpList_store_row rfl _ _ _ rfl w.heap.size #[.string ⟨#[]⟩, .string ⟨#[]⟩, .string ⟨#[]⟩, .string ⟨#[]⟩, .int .i64 0, .int .i64 0] rfl rfl _ _ HZ7.out (by kernel_rfl) rfl (by kernel_rfl) ?_))
            exact bodyPost_ret (v := .tuple #[reqV none, .bool false]) (res_cell2 rfl _ _ w.heap.size _ _ (0, 0) _ rfl (setRow_heap _ _ _ _ _ _ HZ7.out) Tryd.underlying26 rfl (by kernel_rfl) _ rfl) rfl ⟨by rw [HNO.out]; rfl, below_setRow HB7.out (Nat.le_refl _) _⟩
          · have HRG2 : Hid (readGo L rd0 [] true = readGo (L.drop (k + 1)) (psSet r f) (L.take (k + 1)) true) := Lib.hid (by rw [HRG.out, HTK.out]; rfl)
            go_wp2_with (first | (go_at_call 23; with_reducible refine (HPF.out _).mono ?_; rintro e w6 ⟨rfl, hw6⟩; obtain rfl := hw6.symm) | (go_at_call 24; refine HCP.out.mono ?_; rintro e w7 ⟨rfl, hp7, hs7, hb7⟩; have HZ7 := Lib.hid (HZA.out.below hb7 (by omega)); have HB7 := Lib.hid (HBA.out.trans (hb7.mono (by omega))); have HR7 := Lib.hid (And.intro hp7 hs7); clear hp7 hs7 hb7))
            go_roundw
            case rel =>
              obtain ⟨ra, rb⟩ := HR7.out
              rw [← HTK.out] at rb
              exact ⟨k + 1, psSet r f, true, rfl, by simp, hlt, psSet_m hrm (lightF_max HLF.out).2, HRG2.out, HZ7.out, ra, rb, HB7.out⟩
            case measure => simp [intOf]; omega
    · have hkn : k = n := by omega
      subst hkn
      have q1 : decide ((k : Int) < (k : Int)) = false := by simp
      have eT : L.take k = L := by rw [← HN.out]; exact List.take_length
      have eD : L.drop k = [] := by rw [← HN.out]; exact List.drop_length
      rw [eT, eD] at HGO
      rw [eT] at HSN
      have HGO2 : Hid (readGo L rd0 [] true = some (r, L)) := Lib.hid HGO.out
      have hps := HB.out.size
      have HW := Lib.hid (whole_any (w.heap.size + 2) (w.heap.size + 1) r L (by rw [HN.out]; omega) en wr (by omega) HRD.out HSN.out)
      obtain ⟨wb, hwb⟩ : ∃ x, wholeB r L en = x := ⟨_, rfl⟩
      rw [hwb] at HW
      clear eT eD hlt
      cases wb
      · have HNO : Hid (readS L en = none) := Lib.hid (by unfold readS; rw [HGO2.out]; simp only [hwb]; rfl)
        clear hwb
        go_wp2_with (first | (go_at_call 26; refine HW.out.mono ?_; rintro e w7 ⟨rfl, hb7⟩; have HZ7 := Lib.hid (HZR.out.below hb7 HZR.out.lt); have HB7 := Lib.hid (HB.out.trans (hb7.mono HB.out.size)); have HR7 := Lib.hid (HRD.out.step hb7); have hk7 := (HSN.out.below hb7).look ⟨#[58, 97, 117, 116, 104, 111, 114, 105, 116, 121]⟩ (by decide); obtain ⟨⟨d0, d1, d2, d3⟩, d4, d5, d6, d7⟩ := HR7.out.cells; have z3 := HR7.out.z 3; have HZ8 : Hid (ZRow (w7.setCell ⟨w.heap.size + 2, 3, none⟩ (.string r.host)) w.heap.size) := Lib.hid ((heap_setCell_other w7 ⟨w.heap.size + 2, 3, none⟩ w.heap.size (.string r.host) (by simp)).trans HZ7.out); have HB8 := Lib.hid (HB7.out.setCell (p := ⟨w.heap.size + 2, 3, none⟩) (by simp) (.string r.host)); clear hb7) | (refine wpList_store_row rfl _ _ _ rfl w.heap.size #[.string ⟨#[]⟩, .string ⟨#[]⟩, .string ⟨#[]⟩, .string ⟨#[]⟩, .int .i64 0, .int .i64 0] rfl rfl _ _ HZ7.out (by kernel_rfl) rfl (by kernel_rfl) ?_))
        exact bodyPost_ret (v := .tuple #[reqV none, .bool false]) (res_cell2 rfl _ _ w.heap.size _ _ (0, 0) _ rfl (setRow_heap _ _ _ _ _ _ HZ7.out) Tryd.underlying26 rfl (by kernel_rfl) _ rfl) rfl ⟨by rw [HNO.out]; rfl, below_setRow HB7.out (Nat.le_refl _) _⟩
      · by_cases hc : cntN L nAuth = 0
        · have HNO : Hid (readS L en = some { r with h := r.host }) := Lib.hid (by unfold readS; rw [HGO2.out]; simp only [hwb, if_pos hc]; rfl)
          have hc' : cntN L [58, 97, 117, 116, 104, 111, 114, 105, 116, 121] = 0 := hc
          clear hwb hc
          go_wp2_with (first | (go_at_call 26; refine HW.out.mono ?_; rintro e w7 ⟨rfl, hb7⟩; have HZ7 := Lib.hid (HZR.out.below hb7 HZR.out.lt); have HB7 := Lib.hid (HB.out.trans (hb7.mono HB.out.size)); have HR7 := Lib.hid (HRD.out.step hb7); have hk7 := (HSN.out.below hb7).look ⟨#[58, 97, 117, 116, 104, 111, 114, 105, 116, 121]⟩ (by decide); obtain ⟨⟨d0, d1, d2, d3⟩, d4, d5, d6, d7⟩ := HR7.out.cells; have z3 := HR7.out.z 3; have HZ8 : Hid (ZRow (w7.setCell ⟨w.heap.size + 2, 3, none⟩ (.string r.host)) w.heap.size) := Lib.hid ((heap_setCell_other w7 ⟨w.heap.size + 2, 3, none⟩ w.heap.size (.string r.host) (by simp)).trans HZ7.out); have HB8 := Lib.hid (HB7.out.setCell (p := ⟨w.heap.size + 2, 3, none⟩) (by simp) (.string r.host)); clear hb7; simp only [tl, hc'] at hk7) | (refine wpList_store_row rfl _ _ _ rfl w.heap.size #[.string r.m, .string r.s, .string r.p, .string r.host, .int .i64 r.len, .int .i64 r.rank] rfl rfl _ _ HZ8.out (by kernel_rfl) rfl (by kernel_rfl) ?_))
          exact bodyPost_ret (v := .tuple #[reqV (some { r with h := r.host }), .bool true]) (res_cell2 rfl _ _ w.heap.size _ _ (0, 0) _ rfl (setRow_heap _ _ _ _ _ _ HZ8.out) Tryd.underlying26 rfl (by kernel_rfl) _ rfl) rfl ⟨by rw [HNO.out]; rfl, below_setRow HB8.out (Nat.le_refl _) _⟩
        · have HNO : Hid (readS L en = some r) := Lib.hid (by unfold readS; rw [HGO2.out]; simp only [hwb, if_neg hc]; rfl)
          obtain ⟨c, hc'⟩ : ∃ c, cntN L [58, 97, 117, 116, 104, 111, 114, 105, 116, 121] = c := ⟨_, rfl⟩
          have hcc : ((c : Int) == 0) = false := by
            have : c ≠ 0 := by rw [← hc']; exact hc
            exact beq_eq_false_iff_ne.2 (by omega)
          clear hwb hc
          go_wp2_with (first | (go_at_call 26; refine HW.out.mono ?_; rintro e w7 ⟨rfl, hb7⟩; have HZ7 := Lib.hid (HZR.out.below hb7 HZR.out.lt); have HB7 := Lib.hid (HB.out.trans (hb7.mono HB.out.size)); have HR7 := Lib.hid (HRD.out.step hb7); have hk7 := (HSN.out.below hb7).look ⟨#[58, 97, 117, 116, 104, 111, 114, 105, 116, 121]⟩ (by decide); obtain ⟨⟨d0, d1, d2, d3⟩, d4, d5, d6, d7⟩ := HR7.out.cells; have z3 := HR7.out.z 3; have HZ8 : Hid (ZRow (w7.setCell ⟨w.heap.size + 2, 3, none⟩ (.string r.host)) w.heap.size) := Lib.hid ((heap_setCell_other w7 ⟨w.heap.size + 2, 3, none⟩ w.heap.size (.string r.host) (by simp)).trans HZ7.out); have HB8 := Lib.hid (HB7.out.setCell (p := ⟨w.heap.size + 2, 3, none⟩) (by simp) (.string r.host)); clear hb7; simp only [tl, hc'] at hk7) | (refine wpList_store_row rfl _ _ _ rfl w.heap.size #[.string r.m, .string r.s, .string r.p, .string r.h, .int .i64 r.len, .int .i64 r.rank] rfl rfl _ _ HZ7.out (by kernel_rfl) rfl (by kernel_rfl) ?_))
          exact bodyPost_ret (v := .tuple #[reqV (some r), .bool true]) (res_cell2 rfl _ _ w.heap.size _ _ (0, 0) _ rfl (setRow_heap _ _ _ _ _ _ HZ7.out) Tryd.underlying26 rfl (by kernel_rfl) _ rfl) rfl ⟨by rw [HNO.out]; rfl, below_setRow HB7.out (Nat.le_refl _) _⟩
end Go.Proofs.YtecmccihldjicaaDoor
