/- henc.Items: the walk. -/
import Derived.Test.YteceinojmdgmeaaC42
import Derived.Test.YteceinojmdgmeaaC46
import Derived.Deep.RegionHeld
import Derived.Deep.DeepCutAuto
import Derived.Test.YteceinojmdgmeaaC32
namespace Go.Proofs.Yteceinojmdgmeaa
open Go.RowKit
set_option linter.unusedVariables false
set_option linter.unusedSimpArgs false

theorem resL_chk {mx most : Int} {T : List Fld} (h : chkN mx T = 0) (h0 : 0 ≤ most) (h4 : most ≤ 4096) : resM mx most T = most ∧ chkN most (resL mx most T) = 0 := by
  obtain ⟨k1, k2, k3, k4⟩ := chk_sum h
  unfold resM resL
  rw [if_neg (by omega), if_neg (by omega), if_neg (by omega), if_neg (by omega)]
  exact ⟨rfl, chk_mk h0 h4 (fitN_sum _ _ h0 _) (any_take k4 _)⟩
theorem rz_chk {mx most : Int} {T : List Fld} (h : chkN mx T = 0) (h0 : 0 ≤ most) (h4 : most ≤ 4096) : rzM mx most T = most ∧ chkN most (rzL mx most T) = 0 := by
  unfold rzM rzL
  by_cases e : most = mx
  · rw [if_neg (by simpa using e), if_neg (by simpa using e), e]
    exact ⟨rfl, h⟩
  · rw [if_pos e, if_pos e]
    exact resL_chk h h0 h4
theorem rzO_len (mx most : Int) (O : List Itm) : (rzO mx most O).length ≤ O.length + 1 := by
  unfold rzO
  split
  · simp
  · omega
/-- What stands at the beginning: the state, and the result's row. -/
structure Ez (w : World) (mx le la : Int) (v : Value) (W : World) : Prop where
  st : ERow W w.heap.size mx v le la
  rs : W.heap[w.heap.size + 1]? = some (.cells #[.int .i64 0, .slice none 0 0, .int .i64 0, .int .i64 0] 30 (0, 0))
  below : Below w.heap.size w W
  lt : w.heap.size + 1 < W.heap.size
theorem Ez.step {w W W' : World} {mx le la : Int} {v : Value} (h : Ez w mx le la v W) (hb : Below W.heap.size W W') : Ez w mx le la v W' :=
  ⟨h.st.step hb, (hb.block _ h.lt).trans h.rs, bs_hd h.below hb, Nat.lt_of_lt_of_le h.lt hb.size⟩
theorem Ez.new (w : World) (mx le la : Int) (v : Value) : Ez w mx le la v ((w.alloc (.cells #[.int .i64 mx, v, .int .i64 le, .int .i64 la] 30)).alloc (.cells #[.int .i64 0, .slice none 0 0, .int .i64 0, .int .i64 0] 30)) :=
  ⟨two0 _ _ _, two1 _ _ _, bs_hd (below_new _) (below_new _), by simp⟩
def ItemsPost (mx le la : Int) (oa : Option Addr) (n cap : Nat) (T l : List Fld) (w : World) (e : Ending) (w' : World) : Prop :=
  (echk mx le la T ≠ 0 ∧ e = .returned (.tuple #[.agg #[.int .i64 mx, .slice oa n cap, .int .i64 le, .int .i64 la], .slice none 0 0, .int .i64 (echk mx le la T)]) ∧ Below w.heap.size w w') ∨
  (echk mx le la T = 0 ∧ l.any longF = true ∧ e = .returned (.tuple #[.agg #[.int .i64 mx, .slice oa n cap, .int .i64 le, .int .i64 la], .slice none 0 0, .int .i64 5]) ∧ Below w.heap.size w w') ∨
  (echk mx le la T = 0 ∧ l.any longF = false ∧ ∃ o2 n2 c2 T2 ov O1, e = .returned (.tuple #[.agg #[.int .i64 la, .slice o2 n2 c2, .int .i64 la, .int .i64 la], ov, .int .i64 0]) ∧
    ERun la (rzL le la (rzL mx le T)) l T2 O1 ∧ OwnI w' w.heap.size ov (rzO le la (rzO mx le []) ++ O1) ∧ FieldsN w' o2 T2 ∧ T2.length = n2 ∧ n2 ≤ c2 ∧ chkN la T2 = 0 ∧ Below w.heap.size w w')
theorem res_cell3 {P : Program} {fn : Func} {p u v : Tmp} {ty : TypeId} (h : fn.results = #[.cell p ty, .tmp u, .tmp v]) (tmps : Array Value) (w : World) (g : Nat) (t : TypeId) (cs : Array Value) (fr : Nat × Nat) (d : TypeDesc)
    (hp : tmps.getD p undef = .pointer (some ⟨g, 0, none⟩)) (hg : w.heap[g]? = some (.cells cs t fr))
    (hu : P.underlying ty = some d) (hd : (match d with | .struct _ | .array _ _ => true | _ => false) = true) (hi : (P.info? ty).map (·.size) = some cs.size)
    (a b : Value) (ha : tmps.getD u undef = a) (hb : tmps.getD v undef = b) :
    (results fn tmps).run P w = .ok (.tuple #[.agg cs, a, b]) w := by
  have hp' : tmps[p]?.getD undef = .pointer (some ⟨g, 0, none⟩) := by simpa using hp
  have ha' : tmps[u]?.getD undef = a := by simpa using ha
  have hb' : tmps[v]?.getD undef = b := by simpa using hb
  simp [results, h, hp', ha', hb', asAddr, Sem.run_bind, run_loadVar_row w g t ty cs fr d hg hu hd hi, Result.andThen]
theorem sep_eres {W : World} {oa : Option Addr} {R : List Fld} {g : Nat} {ty : TypeId} {a b c : Int} {v : Value} (h : FieldsN W oa R) (hz : W.heap[g]? = some (.cells #[.int .i64 a, v, .int .i64 b, .int .i64 c] ty (0, 0))) (hv : ∀ s, v ≠ .string s := by intro s h; cases h) : R ≠ [] → ∀ q, oa = some q → q.block ≠ g := fun hne q hq e => by
  cases R with
  | nil => exact absurd rfl hne
  | cons f t =>
    obtain ⟨b0, o0, e0, h0, _⟩ := h 0 f rfl
    rw [hq] at e0
    injection e0 with e0
    subst e0
    subst e
    rw [cell_of_row _ _ _ _ _ _ hz] at h0
    rcases o0 with _ | _ | _ | _ | o0
    · cases h0
    · exact hv _ (Option.some.inj h0)
    · cases h0
    · cases h0
    · simp at h0
theorem echk_facts {mx le la : Int} {T : List Fld} (h : echk mx le la T = 0) : chkN mx T = 0 ∧ 0 ≤ le ∧ le ≤ la ∧ la ≤ 4096 := by
  unfold echk at h
  split at h
  · rename_i c; exact absurd h c
  · rename_i c
    split at h
    · cases h
    · rename_i c2
      refine ⟨by omega, by omega, ?_, by omega⟩
      have h1 : le ≤ min la mx := by omega
      exact Int.le_trans h1 (Int.min_le_left _ _)
set_option maxRecDepth 100000 in
set_option maxHeartbeats 8000000 in
theorem eitems_any (mx le la : Int) (oa : Option Addr) (n cap : Nat) (T : List Fld) (hn : T.length = n) (hnc : n ≤ cap) (hl : ∀ f ∈ T, lightF f = true) (hn30 : n ≤ 1000) (ob : Option Addr) (m capb : Nat) (l : List Fld) (hm : l.length = m) (hll : ∀ f ∈ l, lightF f = true) (hm5 : m ≤ 900) (w : World) (hf : FieldsN w oa T) (hg : FieldsN w ob l) :
    Calls Try.prog 36 #[.agg #[.int .i64 mx, .slice oa n cap, .int .i64 le, .int .i64 la], .slice ob m capb] w (ItemsPost mx le la oa n cap T l w) := by
  have HH := Lib.hid (Ez.new w mx le la (.slice oa n cap))
  have HCK := Lib.hid (fun W (hW : Below w.heap.size w W) => echeck_any mx le la oa n cap T hn hl hn30 W (hf.below hW))
  have HCF := Lib.hid (fun W (hW : Below w.heap.size w W) => econtains_any ob m capb l hm (by omega) W (hg.below hW))
  have HFW := Lib.hid (show ∀ W, Below w.heap.size w W → FieldsN W oa T from fun W hW => hf.below hW)
  have HGW := Lib.hid (show ∀ W, Below w.heap.size w W → FieldsN W ob l from fun W hW => hg.below hW)
  have HN := Lib.hid (And.intro hn (And.intro hnc (And.intro hl hn30)))
  have HM := Lib.hid (And.intro hm (And.intro hll hm5))
  have HNA := Lib.hid (fun a ha hne => fieldsE_lt hf a ha hne)
  unfold ItemsPost
  clear hf hg hn hnc hl hn30 hm hll hm5
  go_enter Try.func36, Try.ntmps36
  go_upto_region 1 with fail
  generalize ((w.alloc (.cells #[.int .i64 mx, .slice oa n cap, .int .i64 le, .int .i64 la] 30)).alloc (.cells #[.int .i64 0, .slice none 0 0, .int .i64 0, .int .i64 0] 30)) = w1 at HH ⊢
  have c0 := HH.out.st.c0
  have c1 := HH.out.st.c1
  have c2 := HH.out.st.c2
  have c3 := HH.out.st.c3
  go_upto_region 2 with (first | (go_at_call 35; refine (HCK.out _ HH.out.below).mono ?_; rintro e w2 ⟨rfl, hb⟩; replace HH := Lib.hid (HH.out.step hb); clear hb))
  clear c0 c1 c2 c3
  have c0 := HH.out.st.c0
  have c1 := HH.out.st.c1
  have c2 := HH.out.st.c2
  have c3 := HH.out.st.c3
  by_cases hk : echk mx le la T = 0
  · have HK := Lib.hid hk
    by_cases hlong : l.any longF = true
    · rw [hlong] at HCF
      have HLG := Lib.hid hlong
      go_wp2_with (first | (go_at_call 58; refine (HCF.out _ HH.out.below).mono ?_; rintro e w3 ⟨rfl, hb⟩; replace HH := Lib.hid (HH.out.step hb); clear hb; have c0 := HH.out.st.c0; have c1 := HH.out.st.c1; have c2 := HH.out.st.c2; have c3 := HH.out.st.c3) | (refine wpList_store_row rfl _ _ _ rfl (w.heap.size + 1) #[.int .i64 mx, .slice oa n cap, .int .i64 le, .int .i64 la] rfl rfl _ _ HH.out.rs (by kernel_rfl) rfl (by kernel_rfl) ?_))
      try rw [Exit.noGoto_ret]
      exact bodyPost_ret (v := .tuple #[.agg #[.int .i64 mx, .slice oa n cap, .int .i64 le, .int .i64 la], .slice none 0 0, .int .i64 5]) (res_cell3 rfl _ _ (w.heap.size + 1) _ _ (0, 0) _ rfl (setRow_heap _ _ _ _ _ _ HH.out.rs) Try.underlying30 rfl (by kernel_rfl) _ _ rfl rfl) rfl
        (.inr (.inl ⟨HK.out, HLG.out, rfl, below_row HH.out.below (by omega) _⟩))
    · have hlf : l.any longF = false := by simpa using hlong
      rw [hlf] at HCF
      have HLG := Lib.hid hlf
      clear hlong hlf
      go_upto_region 6 with (first | (go_at_call 58; refine (HCF.out _ HH.out.below).mono ?_; rintro e w3 ⟨rfl, hb⟩; replace HH := Lib.hid (HH.out.step hb); clear hb; have c0 := HH.out.st.c0; have c1 := HH.out.st.c1; have c2 := HH.out.st.c2; have c3 := HH.out.st.c3))
      have HV := Lib.hid (echk_facts hk)
      have HLIM := Lib.hid (rz_chk (mx := mx) HV.out.1 HV.out.2.1 (Int.le_trans HV.out.2.2.1 HV.out.2.2.2))
      go_upto_region 7 with fail
      clear c0 c1 c2 c3
      have d0 := (HH.out.step (below_new (W := w3) (.cells #[.slice none 0 0] 84))).st.c0
      have d1 := (HH.out.step (below_new (W := w3) (.cells #[.slice none 0 0] 84))).st.c1
      go_upto_region 8 with fail
      clear d0 d1
      have HS := Lib.hid (show ES w3 mx oa n cap T (.slice none 0 0) [] ((w3.alloc (.cells #[.slice none 0 0] 84)).alloc (.cells #[.int .i64 mx, .slice oa n cap] 28)) from
        ⟨two0 _ _ _, two1 _ _ _, OwnI.nil _ _, (HFW.out _ HH.out.below).below (bs_hd (below_new _) (below_new _)), ⟨HN.out.1, HN.out.2.1⟩, (fun a ha hne => ⟨by have := HNA.out a ha hne; have := HH.out.lt; omega, by have := HNA.out a ha hne; have := HH.out.lt; omega, fun e => by cases e⟩), bs_hd (below_new _) (below_new _)⟩)
      have HHW := Lib.hid (show ∀ W, Below w3.heap.size w3 W → Ez w mx le la (.slice oa n cap) W from fun W hW => HH.out.step hW)
      have HLT := Lib.hid HH.out.lt
      generalize ((w3.alloc (.cells #[.slice none 0 0] 84)).alloc (.cells #[.int .i64 mx, .slice oa n cap] 28)) = w4 at HS ⊢
      obtain ⟨wB, hwB⟩ : ∃ wB, wB = w3 := ⟨_, rfl⟩
      subst hwB
      have HR1 := Lib.hid (fun W h => erz_any wB mx le oa n cap T HN.out.2.2.1 HN.out.2.2.2 (.slice none 0 0) [] (by simp) W h)
      unfold RzPost at HR1
      rw [HLIM.out.1] at HR1
      clear HH HCK HCF
      have c2 := (HHW.out _ HS.out.below).st.c2
      go_upto_region 10 with (first | (go_at_call 60; refine (HR1.out _ HS.out).mono ?_; rintro e w5 ⟨rfl, ot1, tn1, tc1, ov1, hes⟩; have HS1 := Lib.hid hes; clear hes))
      clear c2
      have hcl1 := chk_light HLIM.out.2
      have HLIM2 := Lib.hid (rz_chk (mx := le) (most := la) HLIM.out.2 (Int.le_trans HV.out.2.1 HV.out.2.2.1) HV.out.2.2.2)
      have HR2 := Lib.hid (fun W h => erz_any wB le la ot1 tn1 tc1 (rzL mx le T) hcl1.2 (by have := HS1.out.len.1; have := hcl1.1; omega) ov1 (rzO mx le []) (by have := rzO_len mx le []; simp at this; omega) W h)
      unfold RzPost at HR2
      rw [HLIM2.out.1] at HR2
      have c3 := (HHW.out _ HS1.out.below).st.c3
      go_upto_region 11 with (first | (go_at_call 60; refine (HR2.out _ HS1.out).mono ?_; rintro e w6 ⟨rfl, ot2, tn2, tc2, ov2, hes⟩; have HS2 := Lib.hid hes; clear hes))
      clear c3 hcl1 HR1 HR2 HS HS1
      have HO0 := Lib.hid (show (rzO le la (rzO mx le [])).length ≤ 2 by have h1 := rzO_len le la (rzO mx le []); have h2 := rzO_len mx le []; simp at h2; omega)
      have HT0 := Lib.hid HLIM2.out.2
      generalize hO0 : rzO le la (rzO mx le []) = O0 at HS2 HO0
      generalize hT0 : rzL le la (rzL mx le T) = T1 at HS2 HT0
      have HEO := Lib.hid (And.intro hO0 hT0)
      clear hO0 hT0 HLIM HLIM2 hk
      go_wp2_with fail
      go_loopw [36] (fun iv wr => ∃ (k : Nat) (ot : Option Addr) (tn tc : Nat) (T2 : List Fld) (ov : Value) (O1 : List Itm), iv = .int .i64 k ∧ k ≤ m ∧ ERun la T1 (l.take k) T2 O1 ∧ O1.length = k ∧ chkN la T2 = 0 ∧ ES wB la ot tn tc T2 ov (O0 ++ O1) wr) (fun iv _ => m - (intOf iv).toNat)
      case atStart => exact ⟨0, ot2, tn2, tc2, T1, ov2, [], rfl, Nat.zero_le _, ⟨rfl, rfl⟩, rfl, HT0.out, by rw [List.append_nil]; exact HS2.out⟩
      case round =>
        obtain ⟨k, ot, tn, tc, T2, ov, O1, rfl, hkm, her, hol, hck, hes⟩ := hrel
        have HS := Lib.hid hes
        have HER := Lib.hid her
        have HOL := Lib.hid hol
        have HCK := Lib.hid hck
        clear hes her hol hck HS2 HT0
        by_cases hlt : k < m
        · have q1 : decide ((k : Int) < (m : Int)) = true := decide_eq_true (by omega)
          have hw8 : IntKind.i64.wrap ((k : Int) + 1) = (k : Int) + 1 := IntWalk.i64_in _ (by have := HM.out.2.2; omega)
          obtain ⟨f, hx⟩ : ∃ f, l[k]? = some f := ⟨l[k]'(by rw [HM.out.1]; exact hlt), List.getElem?_eq_getElem _⟩
          obtain ⟨b0, o0, rfl, l0, l1, l2⟩ := (HGW.out _ (HHW.out _ HS.out.below).below) k f hx
          have hlf := HM.out.2.1 f (List.mem_of_getElem? hx)
          have hcl := chk_light HCK.out
          have HTK := Lib.hid (show l.take (k + 1) = l.take k ++ [f] from by rw [List.take_add_one, hx]; rfl)
          have HIM := Lib.hid (fun W (h : FieldsN W ot T2) => eitem_any la (Int.le_trans HV.out.2.1 HV.out.2.2.1) HV.out.2.2.2 ot tn tc T2 HS.out.len.1 (by have := HS.out.len.1; have := hcl.1; omega) f hlf W h)
          have HAD := Lib.hid (fun W (h : FieldsN W ot T2) => add_any la ot tn tc T2 HS.out.len.1 hcl.2 (by have := HS.out.len.1; have := hcl.1; omega) f hlf W h)
          have HAC := Lib.hid (addL_chk (mx := la) f HCK.out)
          unfold EItemPost at HIM
          unfold AddPost at HAD
          obtain ⟨fn, fv, fb⟩ := f
          dsimp only at l0 l1 l2 HIM HAD
          clear hx hlf hcl
          go_upto_region 14 with fail
          have HGO := Lib.hid (fun g hg => (HS.out.oi.own_lt g hg).2)
          have HGL := Lib.hid HS.out.gt
          have HF := Lib.hid (show FRow (wr.alloc (.cells #[.string fn, .string fv, .bool fb] 25)) wr.heap.size ⟨fn, fv, fb⟩ from heap_alloc_new wr _)
          replace HS := Lib.hid (HS.out.step (below_new (W := wr) (.cells #[.string fn, .string fv, .bool fb] 25)))
          have HG12 := Lib.hid (show (∀ g, ov.ownBlock = some g → g < wr.heap.size) ∧ wB.heap.size + 1 < wr.heap.size from ⟨HGO.out, HGL.out⟩)
          generalize wr.alloc (.cells #[.string fn, .string fv, .bool fb] 25) = w7 at HF HS ⊢
          generalize wr.heap.size = g12 at HF HG12 ⊢
          clear HGO HGL
          clear l0 l1 l2
          have t0 := cell_of_row _ _ 0 _ _ _ HS.out.tr
          have t1 := cell_of_row _ _ 1 _ _ _ HS.out.tr
          have f0 := HF.out.c0
          have f1 := HF.out.c1
          have f2 := HF.out.c2
          dsimp only at f0 f1 f2
          go_upto_region 15 with (first | (go_at_call 62; refine (HIM.out _ HS.out.ft).mono ?_; rintro e w8 ⟨p, x, hdf, rfl, hb⟩; have HDF := Lib.hid hdf; replace HS := Lib.hid (HS.out.step hb); replace HF := Lib.hid (HF.out.step hb); clear hdf hb))
          clear t0 t1 f0 f1 f2
          have HSN := Lib.hid (HER.out.snoc (f := ⟨fn, fv, fb⟩) HDF.out)
          rw [← HTK.out] at HSN
          generalize eItem p x la ⟨fn, fv, fb⟩ = it at HSN ⊢
          obtain ⟨ik, ii, inm, ivl⟩ := it
          dsimp only at HSN ⊢
          have HGO := Lib.hid (fun g hg => (HS.out.oi.own_lt g hg).2)
          have HGL := Lib.hid HS.out.gt
          have HX := Lib.hid (show IRow (w8.alloc (.cells #[.int .u8 (ik : Int), .int .i64 ii, .string inm, .string ivl] 49)) w8.heap.size ik ii inm ivl from heap_alloc_new w8 _)
          replace HS := Lib.hid (HS.out.step (below_new (W := w8) (.cells #[.int .u8 (ik : Int), .int .i64 ii, .string inm, .string ivl] 49)))
          replace HF := Lib.hid (HF.out.step (below_new (W := w8) (.cells #[.int .u8 (ik : Int), .int .i64 ii, .string inm, .string ivl] 49)))
          generalize w8.alloc (.cells #[.int .u8 (ik : Int), .int .i64 ii, .string inm, .string ivl] 49) = w9 at HX HS HF ⊢
          have HG13 := Lib.hid (show (∀ g, ov.ownBlock = some g → g < w8.heap.size) ∧ wB.heap.size + 1 < w8.heap.size from ⟨HGO.out, HGL.out⟩)
          generalize w8.heap.size = g13 at HX HG13 ⊢
          clear HGO HGL
          have x0 := HX.out.c0
          have x1 := HX.out.c1
          have x2 := HX.out.c2
          have x3 := HX.out.c3
          have v0 := cell_of_row _ _ 0 _ _ _ HS.out.ob
          obtain ⟨i0, hi0, hz0, hz1, hz2⟩ := info_parts item_info
          have HI := Lib.hid hi0
          have HZ0 := Lib.hid hz0
          have HZ1 := Lib.hid hz1
          have HZ2 := Lib.hid hz2
          have HOL2 := Lib.hid (show (O0 ++ O1).length ≤ 1000 from by have h1 := HO0.out; have h2 := HOL.out; have h3 := HM.out.2.2; rw [List.length_append]; omega)
          have HONE := Lib.hid (show ∀ u ∈ [Value.int .u8 (ik : Int), .int .i64 ii, .string inm, .string ivl], u.oneCell' = true from by intro u hu; simp at hu; rcases hu with rfl | rfl | rfl | rfl <;> rfl)
          have HEA := Lib.hid (HS.out.step (below_new (.cells #[.int .u8 (ik : Int), .int .i64 ii, .string inm, .string ivl] 49)))
          have HFA := Lib.hid (HF.out.step (below_new (W := w9) (.cells #[.int .u8 (ik : Int), .int .i64 ii, .string inm, .string ivl] 49)))
          have HXA := Lib.hid (HX.out.step (below_new (W := w9) (.cells #[.int .u8 (ik : Int), .int .i64 ii, .string inm, .string ivl] 49)))
          have HSZ := Lib.hid (show wB.heap.size + 2 ≤ (w9.alloc (.cells #[.int .u8 (ik : Int), .int .i64 ii, .string inm, .string ivl] 49)).heap.size from HEA.out.gt)
          clear hi0 hz0 hz1 hz2
          go_upto_region 16 with (first | (at_builtin; refine wpList_append_own_at _ rfl _ _ 84 rfl (wB.heap.size + 2) 49 i0 _ 4 48 Try.underlying84 HI.out HZ0.out HZ1.out HZ2.out rfl (by omega) ov _ _ rfl HEA.out.oi ⟨w9.heap.size, 0, none⟩ 1 1 [Value.int .u8 (ik : Int), .int .i64 ii, .string inm, .string ivl] rfl rfl (cells_new w9 [Value.int .u8 (ik : Int), .int .i64 ii, .string inm, .string ivl] _) HONE.out (by unfold maxLen; have := HOL2.out; omega) (by have := HOL2.out; omega) HSZ.out ?_; intro v3 w10 hown3 hg3 _ hat3; have ho3 := OwnI.app (x := ⟨ik, ii, inm, ivl⟩) hown3; obtain ⟨a3, c3, hv3, _, _, _, _⟩ := ho3.form; generalize (O0 ++ O1 ++ [(⟨ik, ii, inm, ivl⟩ : Itm)]).length = n3 at hv3; subst hv3; have HE3 := Lib.hid (HEA.out.app hg3 ho3 hat3); have HF3 := Lib.hid ((hg3.block g12 HFA.out.lt (fun e => by have := HG12.out.1 _ e.symm; omega)).trans HFA.out); have HX3 := Lib.hid ((hg3.block g13 HXA.out.lt (fun e => by have := HG13.out.1 _ e.symm; omega)).trans HXA.out); have x3 := cell_of_row _ _ 0 _ _ _ HE3.out.1; have z3 := frozen_of_row _ _ 0 _ _ HE3.out.1; clear hown3 hg3 hat3 ho3))
          have HS4 := Lib.hid HE3.out.2
          replace HF := Lib.hid (show FRow (w10.setCell ⟨wB.heap.size, 0, none⟩ (.slice a3 n3 c3)) g12 ⟨fn, fv, fb⟩ from (heap_setCell_other _ _ _ _ (by have := HG12.out.2; show g12 ≠ wB.heap.size; omega)).trans HF3.out)
          replace HX := Lib.hid (show IRow (w10.setCell ⟨wB.heap.size, 0, none⟩ (.slice a3 n3 c3)) g13 ik ii inm ivl from (heap_setCell_other _ _ _ _ (by have := HG13.out.2; show g13 ≠ wB.heap.size; omega)).trans HX3.out)
          clear x0 x1 x2 x3 z3 v0 HE3 HF3 HX3 HEA HFA HXA HS HONE HSZ
          generalize w10.setCell ⟨wB.heap.size, 0, none⟩ (.slice a3 n3 c3) = w11 at HS4 HF HX ⊢
          have x0 := HX.out.c0
          have t0 := cell_of_row _ _ 0 _ _ _ HS4.out.tr
          have t1 := cell_of_row _ _ 1 _ _ _ HS4.out.tr
          have f0 := HF.out.c0
          have f1 := HF.out.c1
          have f2 := HF.out.c2
          dsimp only at f0 f1 f2
          by_cases hk1 : ik = 1
          · have q2 : ((ik : Int) == 1) = true := by rw [hk1]; rfl
            rw [if_pos hk1] at HSN
            clear hk1
            go_wp2_with (first
              | (go_at_call 30; refine (HAD.out _ HS4.out.ft).mono ?_; rintro e w12 ⟨v5, rfl, ho5, hb5⟩; obtain ⟨a5, c5, rfl, hf5, hc5, _, hx5⟩ := ho5.form; have HT5 := Lib.hid (HS4.out.turn (mx2 := la) hb5 hf5 ⟨rfl, hc5⟩ (fun a ha => (hx5 a ha).1)); have HR5 := Lib.hid (HS4.out.step hb5).tr; generalize (addL la T2 ⟨fn, fv, fb⟩).length = n5 at HT5 ⊢; clear ho5 hb5 hf5 hc5 hx5)
              | (refine wpList_store_row rfl _ _ _ rfl (wB.heap.size + 1) #[.int .i64 la, .slice a5 n5 c5] rfl rfl _ _ HR5.out (by kernel_rfl) rfl (by kernel_rfl) ?_))
            go_roundw
            case rel => exact ⟨k + 1, a5, n5, c5, _, _, _, by go_num, by omega, HSN.out, by have := HOL.out; simp; omega, HAC.out, by rw [← List.append_assoc]; exact HT5.out⟩
            case measure => simp [intOf]; omega
          · have q2 : ((ik : Int) == 1) = false := beq_eq_false_iff_ne.2 (by omega)
            rw [if_neg hk1] at HSN
            clear hk1
            go_wp2_with fail
            go_roundw
            case rel => exact ⟨k + 1, ot, tn, tc, _, _, _, by go_num, by omega, HSN.out, by have := HOL.out; simp; omega, HCK.out, by rw [← List.append_assoc]; exact HS4.out⟩
            case measure => simp [intOf]; omega
        · obtain rfl : k = m := by omega
          have q1 : decide ((k : Int) < (k : Int)) = false := by simp
          rw [List.take_of_length_le (by rw [HM.out.1]; exact Nat.le_refl _)] at HER
          go_upto_region 19 with fail
          have HSD := Lib.hid (HS.out.step ((Below.refl wr.heap.size wr).drew))
          have HEZ := Lib.hid (HHW.out _ HSD.out.below)
          refine wp_region_held_drew (S := fun W => W.heap[wB.heap.size]? = some (.cells #[ov] 84 (0, 0)) ∧ W.heap[wB.heap.size + 1]? = some (.cells #[.int .i64 la, .slice ot tn tc] 28 (0, 0))) (by kernel_rfl) ⟨HSD.out.ob, HSD.out.tr⟩ (fun hHeld => ?_)
          refine wpAnyH_takeD (i := 0) (v := ?_) (some 54) rfl rfl rfl (by kernel_rfl) (by kernel_rfl) (by kernel_rfl) (fun _ _ _ h => h) ?_ (by assumption) ?_
          rotate_left
          · intro W hW
            have t0 := cell_of_row _ _ 0 _ _ _ hW.2
            have t1 := cell_of_row _ _ 1 _ _ _ hW.2
            go_simp
            with_reducible rfl
          try simp only [Act.put, List.setIfInBounds_toArray, List.set_cons_zero, List.set_cons_succ]
          refine wpAnyH_takeD (i := 1) (v := ?_) (some 55) rfl rfl rfl (by kernel_rfl) (by kernel_rfl) (by kernel_rfl) (fun _ _ _ h => h) ?_ (by assumption) ?_
          rotate_left
          · intro W hW
            go_simp
            with_reducible rfl
          try simp only [Act.put, List.setIfInBounds_toArray, List.set_cons_zero, List.set_cons_succ]
          refine wpAnyH_takeD (i := 2) (v := ?_) (some 56) rfl rfl rfl (by kernel_rfl) (by kernel_rfl) (by kernel_rfl) (fun _ _ _ h => h) ?_ (by assumption) ?_
          rotate_left
          · intro W hW
            have t0 := cell_of_row _ _ 0 _ _ _ hW.2
            have t1 := cell_of_row _ _ 1 _ _ _ hW.2
            go_simp
            with_reducible rfl
          try simp only [Act.put, List.setIfInBounds_toArray, List.set_cons_zero, List.set_cons_succ]
          refine wpAnyH_takeD (i := 3) (v := ?_) (some 57) rfl rfl rfl (by kernel_rfl) (by kernel_rfl) (by kernel_rfl) (fun _ _ _ h => h) ?_ (by assumption) ?_
          rotate_left
          · intro W hW
            go_simp
            with_reducible rfl
          try simp only [Act.put, List.setIfInBounds_toArray, List.set_cons_zero, List.set_cons_succ]
          refine wpAnyH_takeD (i := 4) (v := ?_) (some 58) rfl rfl rfl (by kernel_rfl) (by kernel_rfl) (by kernel_rfl) (fun _ _ _ h => h) ?_ (by assumption) ?_
          rotate_left
          · intro W hW
            have t0 := cell_of_row _ _ 0 _ _ _ hW.2
            have t1 := cell_of_row _ _ 1 _ _ _ hW.2
            go_simp
            with_reducible rfl
          try simp only [Act.put, List.setIfInBounds_toArray, List.set_cons_zero, List.set_cons_succ]
          refine wpAnyH_takeD (i := 5) (v := ?_) (some 59) rfl rfl rfl (by kernel_rfl) (by kernel_rfl) (by kernel_rfl) (fun _ _ _ h => h) ?_ (by assumption) ?_
          rotate_left
          · intro W hW
            go_simp
            with_reducible rfl
          try simp only [Act.put, List.setIfInBounds_toArray, List.set_cons_zero, List.set_cons_succ]
          refine wpAnyH_takeD (i := 6) (v := ?_) (some 60) rfl rfl rfl (by kernel_rfl) (by kernel_rfl) (by kernel_rfl) (fun _ _ _ h => h) ?_ (by assumption) ?_
          rotate_left
          · intro W hW
            have o0 := cell_of_row _ _ 0 _ _ _ hW.1
            go_simp
            with_reducible rfl
          try simp only [Act.put, List.setIfInBounds_toArray, List.set_cons_zero, List.set_cons_succ]
          have hlt2 := HLT.out
          refine wpAnyH_store (i := 7) (by kernel_rfl) rfl rfl rfl _ _ _ rfl (w.heap.size + 1) #[.int .i64 la, .slice ot tn tc, .int .i64 la, .int .i64 la] rfl rfl 30 _ HEZ.out.rs (by kernel_rfl) rfl (by kernel_rfl) ⟨(setRow_other _ _ _ _ (by omega)).trans HSD.out.ob, (setRow_other _ _ _ _ (by omega)).trans HSD.out.tr⟩ (fun hHeld2 => ?_)
          clear hHeld
          have hHeld := hHeld2
          clear hHeld2
          refine wpAnyH_takeD (i := 8) (v := ?_) (some 5) rfl rfl rfl (by kernel_rfl) (by kernel_rfl) (by kernel_rfl) (fun _ _ _ h => h) ?_ (by assumption) ?_
          rotate_left
          · intro W hW
            go_simp
            with_reducible rfl
          try simp only [Act.put, List.setIfInBounds_toArray, List.set_cons_zero, List.set_cons_succ]
          refine wpAnyH_takeD (i := 9) (v := ?_) (some 6) rfl rfl rfl (by kernel_rfl) (by kernel_rfl) (by kernel_rfl) (fun _ _ _ h => h) ?_ (by assumption) ?_
          rotate_left
          · intro W hW
            go_simp
            with_reducible rfl
          try simp only [Act.put, List.setIfInBounds_toArray, List.set_cons_zero, List.set_cons_succ]
          refine wpAnyH_done (by kernel_rfl) ?_ _
          clear hHeld hlt2
          go_wp2_with fail
          try rw [Exit.noGoto_ret]
          have hB := HEZ.out.below.size
          have hlt3 := HLT.out
          have HOI := Lib.hid (show OwnI (wr.drew.setRow (w.heap.size + 1) #[.int .i64 la, .slice ot tn tc, .int .i64 la, .int .i64 la]) w.heap.size ov (O0 ++ O1) from (HSD.out.oi.keep (fun g hg => setRow_other _ _ _ _ (by have := (HSD.out.oi.own_lt g hg).1; omega))).mono (by omega))
          exact bodyPost_ret (v := .tuple #[.agg #[.int .i64 la, .slice ot tn tc, .int .i64 la, .int .i64 la], ov, .int .i64 0]) (res_cell3 rfl _ _ (w.heap.size + 1) _ _ (0, 0) _ rfl (setRow_heap _ _ _ _ _ _ HEZ.out.rs) Try.underlying30 rfl (by kernel_rfl) _ _ rfl rfl) rfl
            (.inr (.inr ⟨HK.out, HLG.out, ot, tn, tc, T2, ov, O1, rfl, by rw [HEO.out.2]; exact HER.out, by rw [HEO.out.1]; exact HOI.out, HSD.out.ft.setRow (sep_eres HSD.out.ft HEZ.out.rs) _, HSD.out.len.1, HSD.out.len.2, HCK.out, below_row HEZ.out.below (by omega) _⟩))
  · have q1 : (echk mx le la T == 0) = false := beq_eq_false_iff_ne.2 hk
    have q2 : (echk mx le la T != 0) = true := by rw [bne, q1]; rfl
    have HK := Lib.hid hk
    go_wp2_with (first | (refine wpList_store_row rfl _ _ _ rfl (w.heap.size + 1) #[.int .i64 mx, .slice oa n cap, .int .i64 le, .int .i64 la] rfl rfl _ _ HH.out.rs (by kernel_rfl) rfl (by kernel_rfl) ?_))
    try rw [Exit.noGoto_ret]
    exact bodyPost_ret (v := .tuple #[.agg #[.int .i64 mx, .slice oa n cap, .int .i64 le, .int .i64 la], .slice none 0 0, .int .i64 (echk mx le la T)]) (res_cell3 rfl _ _ (w.heap.size + 1) _ _ (0, 0) _ rfl (setRow_heap _ _ _ _ _ _ HH.out.rs) Try.underlying30 rfl (by kernel_rfl) _ _ rfl rfl) rfl
      (.inl ⟨HK.out, rfl, below_row HH.out.below (by omega) _⟩)
end Go.Proofs.Yteceinojmdgmeaa

