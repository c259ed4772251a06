/- hdec.Block: the walk. -/
import Derived.Test.YteceinojmdgmeaaC40
import Derived.WalkMore
namespace Go.Proofs.Yteceinojmdgmeaa
open Go.RowKit
set_option linter.unusedVariables false
set_option linter.unusedSimpArgs false

theorem res_cell4 {P : Program} {fn : Func} {p u v x : Tmp} {ty : TypeId} (h : fn.results = #[.cell p ty, .tmp u, .tmp v, .tmp x]) (tmps : Array Value) (w : World) (g : Nat) (t : TypeId) (cs : Array Value) (fr : Nat × Nat) (d : TypeDesc)
    (hp : tmps.getD p undef = .pointer (some ⟨g, 0, none⟩)) (hg : w.heap[g]? = some (.cells cs t fr))
    (hu : P.underlying ty = some d) (hd : (match d with | .struct _ | .array _ _ => true | _ => false) = true) (hi : (P.info? ty).map (·.size) = some cs.size)
    (a b c : Value) (ha : tmps.getD u undef = a) (hb : tmps.getD v undef = b) (hc : tmps.getD x undef = c) :
    (results fn tmps).run P w = .ok (.tuple #[.agg cs, a, b, c]) w := by
  have hp' : tmps[p]?.getD undef = .pointer (some ⟨g, 0, none⟩) := by simpa using hp
  have ha' : tmps[u]?.getD undef = a := by simpa using ha
  have hb' : tmps[v]?.getD undef = b := by simpa using hb
  have hc' : tmps[x]?.getD undef = c := by simpa using hc
  simp [results, h, hp', ha', hb', hc', asAddr, Sem.run_bind, run_loadVar_row w g t ty cs fr d hg hu hd hi, Result.andThen]
/-- What stands at the beginning: the state, and the result's row. -/
structure Bk (w W : World) (mx cp : Int) (v : Value) : Prop where
  st : HRow W w.heap.size mx v cp
  rs : W.heap[w.heap.size + 1]? = some (.cells #[.int .i64 0, .slice none 0 0, .int .i64 0] 45 (0, 0))
  below : Below w.heap.size w W
  lt : w.heap.size + 1 < W.heap.size
theorem Bk.step {w W W' : World} {mx cp : Int} {v : Value} (h : Bk w W mx cp v) (hb : Below W.heap.size W W') : Bk w W' mx cp v :=
  ⟨h.st.step hb, (hb.block _ h.lt).trans h.rs, bs_hd h.below hb, Nat.lt_of_lt_of_le h.lt hb.size⟩
theorem Bk.stepB {w W W' : World} {mx cp : Int} {v : Value} {B : Nat} (h : Bk w W mx cp v) (hB : w.heap.size + 1 < B) (hb : Below B W W') : Bk w W' mx cp v :=
  ⟨(hb.block _ (by omega)).trans h.st, (hb.block _ hB).trans h.rs, h.below.trans (hb.mono (by omega)), Nat.lt_of_lt_of_le h.lt hb.size⟩
theorem Bk.new (w : World) (mx cp : Int) (v : Value) : Bk w ((w.alloc (.cells #[.int .i64 mx, v, .int .i64 cp] 45)).alloc (.cells #[.int .i64 0, .slice none 0 0, .int .i64 0] 45)) mx cp v :=
  ⟨two0 _ _ _, two1 _ _ _, bs_hd ((Below.refl _ _).alloc (Nat.le_refl _) _) ((Below.refl _ _).alloc (Nat.le_refl _) _), by simp⟩
theorem FieldsN.grown {W W' : World} {lo : Option Addr} {L : List Fld} {row : Option Nat} (h : FieldsN W lo L) (hg : W.grownBy W' row) (hne : L ≠ [] → ∀ a, lo = some a → some a.block ≠ row) : FieldsN W' lo L := by
  intro i f hf
  obtain ⟨b, o, ha, h0, h1, h2⟩ := h i f hf
  have e : W'.heap[b]? = W.heap[b]? := hg.block b (World.block_lt_of_cell? _ _ h0) (hne (fun h => by rw [h] at hf; cases hf) _ ha)
  exact ⟨b, o, ha, (cell_eq e).trans h0, (cell_eq e).trans h1, (cell_eq e).trans h2⟩
theorem OwnF.setRow {W : World} {B : Nat} {v : Value} {L : List Fld} (h : OwnF W B v L) {g : Nat} (hg : g < B) (cs : Array Value) : OwnF (W.setRow g cs) B v L := by
  obtain ⟨h1, h2⟩ := h
  refine ⟨h1, ?_⟩
  rcases h2 with h2 | ⟨q, cap, cur, e, hq, hh, r⟩
  · exact .inl h2
  · exact .inr ⟨q, cap, cur, e, hq, (setRow_other _ _ _ _ (by omega)).trans hh, r⟩
/-- What holds at each round's head: the state now, the fields told. -/
structure BkRel (w wi : World) (cp : Int) (mk : Int) (Lk : List Fld) (lo : Option Addr) (ln lc : Nat) (out : List Fld) (vv : Value) (W : World) : Prop where
  row : HRow W wi.heap.size mk (.slice lo ln lc) cp
  len : Lk.length = ln
  cap : ln ≤ lc
  fl : FieldsN W lo Lk
  chk : hchk mk cp Lk = 0
  own : OwnF W (wi.heap.size + 1) vv out
  light : ∀ f ∈ out, lightF f = true
  sep : ∀ a, lo = some a → Lk ≠ [] → a.block ≠ wi.heap.size ∧ ∀ g, vv.ownBlock = some g → a.block ≠ g
  below : Below wi.heap.size wi W
theorem BkRel.step {w wi W W' : World} {cp mk : Int} {Lk out : List Fld} {lo : Option Addr} {ln lc : Nat} {vv : Value} (h : BkRel w wi cp mk Lk lo ln lc out vv W) (hb : Below W.heap.size W W') : BkRel w wi cp mk Lk lo ln lc out vv W' :=
  ⟨h.row.step hb, h.len, h.cap, h.fl.below hb, h.chk, h.own.step hb, h.light, h.sep, h.below.trans (hb.mono h.below.size)⟩
theorem BkRel.gt {w wi W : World} {cp mk : Int} {Lk out : List Fld} {lo : Option Addr} {ln lc : Nat} {vv : Value} (h : BkRel w wi cp mk Lk lo ln lc out vv W) : wi.heap.size < W.heap.size := h.row.lt
/-- The next state is the state now. -/
theorem BkRel.next {w wi W W2 : World} {cp mk mk2 : Int} {Lk Lk2 out : List Fld} {lo lo2 : Option Addr} {ln lc ln2 lc2 : Nat} {vv : Value} (h : BkRel w wi cp mk Lk lo ln lc out vv W) (hb : Below W.heap.size W W2)
    (hlen : Lk2.length = ln2) (hcap : ln2 ≤ lc2) (hfl : FieldsN W2 lo2 Lk2) (hpos : (lo2 = lo ∧ Lk2 = Lk) ∨ ∀ a, lo2 = some a → W.heap.size ≤ a.block) (hck : hchk mk2 cp Lk2 = 0) :
    BkRel w wi cp mk2 Lk2 lo2 ln2 lc2 out vv (W2.setRow wi.heap.size #[.int .i64 mk2, .slice lo2 ln2 lc2, .int .i64 cp]) := by
  have h2 := h.step hb
  have hsep : ∀ a, lo2 = some a → Lk2 ≠ [] → a.block ≠ wi.heap.size ∧ ∀ g, vv.ownBlock = some g → a.block ≠ g := fun a ha hne => by
    rcases hpos with ⟨rfl, rfl⟩ | hp
    · exact h.sep a ha hne
    · have h3 := hp a ha
      have h4 := h.gt
      refine ⟨by omega, fun g hg => ?_⟩
      obtain ⟨_, _, e, _, _, _, hx⟩ := h.own.form
      rw [e] at hg
      cases hoa : (‹Option Addr› : Option Addr) with
      | none => rw [hoa] at hg; cases hg
      | some q =>
        rw [hoa] at hg
        have := hx q hoa
        simp only [Value.ownBlock, Option.some.injEq] at hg
        omega
  exact ⟨setRow_heap _ _ _ _ _ _ h2.row, hlen, hcap, hfl.setRow (fun hne a ha => (hsep a ha hne).1) _, hck, h2.own.setRow (Nat.lt_succ_self _) _, h.light, hsep, below_row h2.below (Nat.le_refl _) _⟩
/-- A field more is told. -/
theorem BkRel.told {w wi W W2 : World} {cp mk : Int} {Lk out : List Fld} {lo : Option Addr} {ln lc : Nat} {vv v2 : Value} {f : Fld} (h : BkRel w wi cp mk Lk lo ln lc out vv W) (hf : lightF f = true)
    (hg : W.grownBy W2 vv.ownBlock) (hown : OwnF W2 (wi.heap.size + 1) v2 (out ++ [f])) (hat : v2.ownBlock = vv.ownBlock ∨ v2.ownBlock = some W.heap.size) : BkRel w wi cp mk Lk lo ln lc (out ++ [f]) v2 W2 := by
  have hge : ∀ g, vv.ownBlock = some g → wi.heap.size + 1 ≤ g := fun g hg => by
    obtain ⟨_, _, e, _, _, _, hx⟩ := h.own.form
    rw [e] at hg
    cases hoa : (‹Option Addr› : Option Addr) with
    | none => rw [hoa] at hg; cases hg
    | some q =>
      rw [hoa] at hg
      have := hx q hoa
      simp only [Value.ownBlock, Option.some.injEq] at hg
      omega
  refine ⟨(hg.block _ h.gt (fun e => by have := hge _ e.symm; omega)).trans h.row, h.len, h.cap, h.fl.grown hg (fun hne a ha e => (h.sep a ha hne).2 _ e.symm rfl), h.chk, hown, fun g hx => ?_, fun a ha hne => ⟨(h.sep a ha hne).1, fun g hv => ?_⟩, h.below.grown hg h.below.size (fun k hk => by have := hge k hk; omega)⟩
  · rcases List.mem_append.1 hx with hx | hx
    · exact h.light g hx
    · obtain rfl := List.mem_singleton.1 hx; exact hf
  · rcases hat with e | e
    · exact (h.sep a ha hne).2 g (e ▸ hv)
    · have e2 := e.symm.trans hv
      injection e2 with e2
      cases hl : Lk with
      | nil => exact absurd hl hne
      | cons f0 t =>
        obtain ⟨b, o, hb, h0, _⟩ := h.fl 0 f0 (by rw [hl]; rfl)
        have := World.block_lt_of_cell? _ _ h0
        rw [ha] at hb
        injection hb with hb
        subst hb
        show b ≠ g
        have this : b < W.heap.size := this
        omega
theorem lit_wf {i : Int} (h1 : 0 ≤ i) (h2 : i ≤ 268435455) : (Lit.int .i64 i).wf = true := by
  have e1 : IntKind.i64.min = -9223372036854775808 := rfl
  have e2 : IntKind.i64.max = 9223372036854775807 := rfl
  simp only [Lit.wf, Bool.and_eq_true, decide_eq_true_eq, e1, e2]
  omega
theorem allA_len : ∀ (f : Nat) (L : List Itm) (bs : List Nat), (allA f L bs).1.length ≤ L.length + bs.length
  | 0, L, bs => by simp [allA]
  | f + 1, L, [] => by simp [allA]
  | f + 1, L, b :: l => by
    unfold allA
    by_cases he : (itemG (b :: l)).2.2 = 0
    · rw [if_neg (by simpa using he)]
      have h1 := (itemG_ok (b :: l) he).1
      have := allA_len f (L ++ [(itemG (b :: l)).1]) ((b :: l).drop (itemG (b :: l)).2.1)
      simp only [List.length_append, List.length_drop, List.length_cons, List.length_nil] at this ⊢
      omega
    · rw [if_pos he]; simp
theorem allG_len (bs : List Nat) : (allG bs).1.length ≤ bs.length := by
  have := allA_len bs.length [] bs
  simpa [allG] using this
set_option maxRecDepth 100000 in
set_option maxHeartbeats 1000000 in
theorem hsize_more (oa : Option Addr) (n cap : Nat) (L : List Fld) (hn : L.length = n) (hl : ∀ f ∈ L, lightF f = true) (hn30 : n ≤ 100000) (w : World) (hf : FieldsN w oa L) :
    Calls Try.prog 24 #[.slice oa n cap] w fun e w' => e = .returned (.int .i64 (sumF L : Nat)) ∧ Below w.heap.size w w' := by
  have HN := Lib.hid hn
  have HF := Lib.hid hf
  have HL := Lib.hid hl
  clear hn hf hl
  go_enter Try.func24, Try.ntmps24
  go_wp2_with fail
  go_loopw [3, 8] (fun s i wr => ∃ k : Nat, k ≤ n ∧ i = .int .i64 k ∧ s = .int .i64 (sumF (L.take k) : Nat) ∧ Below w.heap.size w wr) (fun _ i _ => n - (intOf i).toNat)
  case atStart => exact ⟨0, Nat.zero_le _, rfl, rfl, Below.refl _ _⟩
  case round =>
    obtain ⟨k, hk, rfl, rfl, bk⟩ := hrel
    have BK := Lib.hid bk
    clear bk
    by_cases hlt : k < n
    · have hki : (k : Int) < (n : Int) := by omega
      have hkL : k < L.length := by rw [HN.out]; exact hlt
      have hsl := sumF_le L k HL.out
      have HT := Lib.hid (sumF_take L k hkL)
      have hlf := HL.out L[k] (List.getElem_mem hkL)
      obtain ⟨b, o, rfl, h1, h2, h3⟩ := (HF.out.below BK.out) k L[k] (List.getElem?_eq_getElem hkL)
      generalize L[k] = f at h1 h2 h3 HT hlf
      obtain ⟨nm, vl, nv⟩ := f
      simp only [Fld.sz, lightF, Bool.and_eq_true, decide_eq_true_eq] at h1 h2 h3 HT hlf
      generalize sumF (L.take k) = S at hsl HT ⊢
      go_wp2_with fail
      refine (field_size nm vl nv (by omega) (by omega) _).mono ?_
      rintro e w5 ⟨rfl, hb⟩
      have B5 := Lib.hid ((BK.out.alloc BK.out.size _).trans (hb.mono (by have := BK.out.size; simp; omega)))
      clear hb
      have hw : IntKind.i64.wrap ((S : Int) + ((nm.size : Int) + (vl.size : Int) + 32)) = ((S + (nm.size + vl.size + 32) : Nat) : Int) := by
        rw [show (S : Int) + ((nm.size : Int) + (vl.size : Int) + 32) = ((S + (nm.size + vl.size + 32) : Nat) : Int) from by simp]
        exact IntWalk.i64_in _ (by omega)
      go_wp2_with fail
      go_roundw
      case rel => exact ⟨k + 1, by omega, by go_num, by rw [HT.out]; simp, B5.out⟩
      case measure => simp [intOf]; omega
    · obtain rfl : k = n := by omega
      rw [List.take_of_length_le (by rw [HN.out]; exact Nat.le_refl _)]
      go_wp2_with fail
      go_ret
      exact ⟨rfl, BK.out⟩
set_option maxRecDepth 100000 in
set_option maxHeartbeats 4000000 in
theorem hblock_no (mx cp : Int) (oa : Option Addr) (n cap : Nat) (L : List Fld) (hn : L.length = n) (hnc : n ≤ cap) (hl : ∀ f ∈ L, lightF f = true) (hn30 : n ≤ 1000) (ob : Option Addr) (m capb : Nat) (bs : List Nat) (hm : bs.length = m) (hmc : m ≤ capb) (hm5 : m ≤ 5000) (w : World) (hf : FieldsN w oa L) (hby : BytesN w ob bs) (hb256 : ∀ i, i < bs.length → bs.getD i 0 < 256)
    (h : hchk mx cp L ≠ 0 ∨ (allG bs).2 ≠ 0) :
    Calls Try.prog 27 #[.agg #[.int .i64 mx, .slice oa n cap, .int .i64 cp], .slice ob m capb] w (BlkPost mx cp L bs w) := by
  have HH := Lib.hid (Bk.new w mx cp (.slice oa n cap))
  have HFW := Lib.hid (show ∀ W, Below w.heap.size w W → FieldsN W oa L from fun W hW => hf.below hW)
  have HCK := Lib.hid (fun W (hW : Below w.heap.size w W) => hcheck_any mx cp oa n cap L hn hl hn30 W (hf.below hW))
  have HAL := Lib.hid (fun W (hW : Below w.heap.size w W) => all_any ob m capb bs hm hmc (by omega) W (hby.below hW) hb256)
  unfold AllPost at HAL
  have HN := Lib.hid hn
  unfold BlkPost
  by_cases h0 : hchk mx cp L = 0
  · have h1 : (allG bs).2 ≠ 0 := by rcases h with h | h; exact absurd h0 h; exact h
    have HBK : Hid (hBlk mx cp L bs = (mx, L, [], false, (((allG bs).2 : Nat) : Int))) := Lib.hid (by unfold hBlk; rw [if_neg (by omega), if_pos h1])
    rw [h0] at HCK
    generalize hBlk mx cp L bs = R at HBK ⊢
    generalize allG bs = G at HAL HBK h1
    obtain ⟨its, er⟩ := G
    dsimp only at HAL HBK h1
    have q1 : ((er : Int) == 0) = false := beq_eq_false_iff_ne.2 (by omega)
    clear hf hn h h0 h1 hby hb256 hl hm
    go_enter Try.func27, Try.ntmps27
    go_upto_region 1 with fail
    generalize ((w.alloc (.cells #[.int .i64 mx, .slice oa n cap, .int .i64 cp] 45)).alloc (.cells #[.int .i64 0, .slice none 0 0, .int .i64 0] 45)) = w1 at HH ⊢
    go_step3
    have c0 := HH.out.st.c0
    have c1 := HH.out.st.c1
    have c2 := HH.out.st.c2
    go_wp2_with (first | (go_at_call 21; refine (HCK.out _ HH.out.below).mono ?_; rintro e w2 ⟨rfl, hb⟩; replace HH := Lib.hid (HH.out.step hb); clear hb; have c0 := HH.out.st.c0; have c1 := HH.out.st.c1; have c2 := HH.out.st.c2) | (go_at_call 53; refine (HAL.out _ HH.out.below).mono ?_; rintro e w3 ⟨v, rfl, ho, hb⟩; obtain ⟨oi, ci, rfl, hit, hic, _, hix⟩ := ho.form; replace HH := Lib.hid (HH.out.step hb); have HIT := Lib.hid hit; clear hb ho hit hic hix; have c0 := HH.out.st.c0; have c1 := HH.out.st.c1; have c2 := HH.out.st.c2) | (refine wpList_store_row rfl _ _ _ rfl (w.heap.size + 1) #[.int .i64 mx, .slice oa n cap, .int .i64 cp] rfl rfl _ _ HH.out.rs (by kernel_rfl) rfl (by kernel_rfl) ?_))
    try rw [Exit.noGoto_ret]
    exact bodyPost_ret (v := .tuple #[.agg #[.int .i64 mx, .slice oa n cap, .int .i64 cp], .slice none 0 0, .bool false, .int .i64 (er : Nat)]) (res_cell4 rfl _ _ (w.heap.size + 1) _ _ (0, 0) _ rfl (setRow_heap _ _ _ _ _ _ HH.out.rs) Try.underlying45 rfl (by kernel_rfl) _ _ _ rfl rfl rfl) rfl
      ⟨oa, n, cap, none, 0, 0, by rw [HBK.out], by rw [HBK.out]; exact HN.out, hnc, by rw [HBK.out]; exact HFW.out _ (below_row HH.out.below (by omega) _), by rw [HBK.out]; rfl, Nat.le_refl _, by rw [HBK.out]; exact FieldsN.nil _ _, below_row HH.out.below (by omega) _⟩
  · have HBK : Hid (hBlk mx cp L bs = (mx, L, [], false, hchk mx cp L)) := Lib.hid (by unfold hBlk; rw [if_pos h0])
    have q1 : (hchk mx cp L == 0) = false := beq_eq_false_iff_ne.2 h0
    generalize hBlk mx cp L bs = R at HBK ⊢
    generalize hchk mx cp L = hc at HCK HBK q1 h
    clear hf hn h h0 hby hb256 hl hm
    go_enter Try.func27, Try.ntmps27
    go_upto_region 1 with fail
    generalize ((w.alloc (.cells #[.int .i64 mx, .slice oa n cap, .int .i64 cp] 45)).alloc (.cells #[.int .i64 0, .slice none 0 0, .int .i64 0] 45)) = w1 at HH ⊢
    go_step3
    have c0 := HH.out.st.c0
    have c1 := HH.out.st.c1
    have c2 := HH.out.st.c2
    go_wp2_with (first | (go_at_call 21; refine (HCK.out _ HH.out.below).mono ?_; rintro e w2 ⟨rfl, hb⟩; replace HH := Lib.hid (HH.out.step hb); clear hb; have c0 := HH.out.st.c0; have c1 := HH.out.st.c1; have c2 := HH.out.st.c2) | (refine wpList_store_row rfl _ _ _ rfl (w.heap.size + 1) #[.int .i64 mx, .slice oa n cap, .int .i64 cp] rfl rfl _ _ HH.out.rs (by kernel_rfl) rfl (by kernel_rfl) ?_))
    try rw [Exit.noGoto_ret]
    exact bodyPost_ret (v := .tuple #[.agg #[.int .i64 mx, .slice oa n cap, .int .i64 cp], .slice none 0 0, .bool false, .int .i64 hc]) (res_cell4 rfl _ _ (w.heap.size + 1) _ _ (0, 0) _ rfl (setRow_heap _ _ _ _ _ _ HH.out.rs) Try.underlying45 rfl (by kernel_rfl) _ _ _ rfl rfl rfl) rfl
      ⟨oa, n, cap, none, 0, 0, by rw [HBK.out], by rw [HBK.out]; exact HN.out, hnc, by rw [HBK.out]; exact HFW.out _ (below_row HH.out.below (by omega) _), by rw [HBK.out]; rfl, Nat.le_refl _, by rw [HBK.out]; exact FieldsN.nil _ _, below_row HH.out.below (by omega) _⟩
set_option maxRecDepth 100000 in
set_option maxHeartbeats 4000000 in
theorem hblock_yes (mx cp : Int) (oa : Option Addr) (n cap : Nat) (L : List Fld) (hn : L.length = n) (hnc : n ≤ cap) (hl : ∀ f ∈ L, lightF f = true) (hn30 : n ≤ 1000) (ob : Option Addr) (m capb : Nat) (bs : List Nat) (hm : bs.length = m) (hmc : m ≤ capb) (hm5 : m ≤ 5000) (w : World) (hf : FieldsN w oa L) (hby : BytesN w ob bs) (hb256 : ∀ i, i < bs.length → bs.getD i 0 < 256)
    (h0 : hchk mx cp L = 0) (h1 : (allG bs).2 = 0) :
    Calls Try.prog 27 #[.agg #[.int .i64 mx, .slice oa n cap, .int .i64 cp], .slice ob m capb] w (BlkPost mx cp L bs w) := by
  have HH := Lib.hid (Bk.new w mx cp (.slice oa n cap))
  have HFW := Lib.hid (show ∀ W, Below w.heap.size w W → FieldsN W oa L from fun W hW => hf.below hW)
  have HCK := Lib.hid (fun W (hW : Below w.heap.size w W) => hcheck_any mx cp oa n cap L hn hl hn30 W (hf.below hW))
  have HAL := Lib.hid (fun W (hW : Below w.heap.size w W) => all_any ob m capb bs hm hmc (by omega) W (hby.below hW) hb256)
  unfold AllPost at HAL
  have HN := Lib.hid hn
  unfold BlkPost
  have HGOT := Lib.hid (allG_got bs h1)
  have HBK0 : Hid (hBlk mx cp L bs = if (hRun cp (allG bs).1 mx L false []).2.2.2 ≠ 0 then (mx, L, [], false, (hRun cp (allG bs).1 mx L false []).2.2.2) else if 1024 < sumF (hRun cp (allG bs).1 mx L false []).2.2.1 then ((hRun cp (allG bs).1 mx L false []).1, (hRun cp (allG bs).1 mx L false []).2.1, [], false, 0) else ((hRun cp (allG bs).1 mx L false []).1, (hRun cp (allG bs).1 mx L false []).2.1, (hRun cp (allG bs).1 mx L false []).2.2.1, true, 0)) := Lib.hid (by unfold hBlk; rw [if_neg (by omega), if_neg (by omega)])
  rw [h0] at HCK
  rw [h1] at HAL
  generalize hBlk mx cp L bs = R at HBK0 ⊢
  have HIL := Lib.hid (allG_len bs)
  generalize (allG bs).1 = its at HAL HBK0 HGOT HIL
  obtain ⟨T, hT⟩ : ∃ T, hRun cp its mx L false [] = T := ⟨_, rfl⟩
  rw [hT] at HBK0
  have HT := Lib.hid hT
  have HH0 := Lib.hid h0
  have HM5 := Lib.hid (And.intro hm hm5)
  have HOA := Lib.hid (show ∀ a, oa = some a → L ≠ [] → a.block < w.heap.size from fun a ha hne => by
    cases L with
    | nil => exact absurd rfl hne
    | cons f t =>
      obtain ⟨b, o, e, c, _⟩ := hf 0 f rfl
      rw [ha] at e
      injection e with e
      subst e
      exact World.block_lt_of_cell? _ _ c)
  obtain ⟨i0, hi0, hz0, hz1, hz2⟩ := info_parts field_info
  have HI := Lib.hid hi0
  have HZ0 := Lib.hid hz0
  have HZ1 := Lib.hid hz1
  have HZ2 := Lib.hid hz2
  clear hf hn h0 h1 hby hb256 hl hm hm5 hT hi0 hz0 hz1 hz2
  go_enter Try.func27, Try.ntmps27
  go_upto_region 1 with fail
  generalize ((w.alloc (.cells #[.int .i64 mx, .slice oa n cap, .int .i64 cp] 45)).alloc (.cells #[.int .i64 0, .slice none 0 0, .int .i64 0] 45)) = w1 at HH ⊢
  go_step3
  have c0 := HH.out.st.c0
  have c1 := HH.out.st.c1
  have c2 := HH.out.st.c2
  go_upto_region 7 with (first | (go_at_call 21; refine (HCK.out _ HH.out.below).mono ?_; rintro e w2 ⟨rfl, hb⟩; replace HH := Lib.hid (HH.out.step hb); clear hb; have c0 := HH.out.st.c0; have c1 := HH.out.st.c1; have c2 := HH.out.st.c2) | (go_at_call 53; refine (HAL.out _ HH.out.below).mono ?_; rintro e w3 ⟨v, rfl, ho, hb⟩; obtain ⟨oi, ci, rfl, hit, hic, _, hix⟩ := ho.form; replace HH := Lib.hid (HH.out.step hb); have HIT := Lib.hid hit; clear hb ho hit hic hix; have c0 := HH.out.st.c0; have c1 := HH.out.st.c1; have c2 := HH.out.st.c2))
  clear c0 c1 c2
  have c0 := HH.out.st.c0
  have c1 := HH.out.st.c1
  have c2 := HH.out.st.c2
  go_upto_region 8 with fail
  have HR0 := Lib.hid (show BkRel w w3 cp mx L oa n cap [] (.slice none 0 0) (w3.alloc (.cells #[.int .i64 mx, .slice oa n cap, .int .i64 cp] 45)) from
    ⟨HRow.new w3 mx cp (.slice oa n cap), HN.out, hnc, (HFW.out _ HH.out.below).below ((Below.refl _ _).alloc (Nat.le_refl _) _), HH0.out, World.ownsRow_nil _ _ _ _, (fun f hf => by cases hf),
      fun a ha hne => ⟨by have := HOA.out a ha hne; have := HH.out.lt; omega, (fun g hg => by cases hg)⟩, (Below.refl _ _).alloc (Nat.le_refl _) _⟩)
  have HGW := Lib.hid HH.out.lt
  have HHW := Lib.hid (show ∀ W, Below w3.heap.size w3 W → Bk w W mx cp (.slice oa n cap) from fun W hW => HH.out.step hW)
  have HITW := Lib.hid (show ∀ W, Below w3.heap.size w3 W → ItemsN W oi its from fun W hW => HIT.out.below hW)
  have HSP0 := Lib.hid (show ∀ a, oa = some a → L ≠ [] → a.block ≠ w.heap.size + 1 from fun a ha hne => by have := HOA.out a ha hne; omega)
  generalize hNI : its.length = N
  have HNI := Lib.hid hNI
  clear hNI HH HIT c0 c1 c2 HOA
  generalize w3.alloc (.cells #[.int .i64 mx, .slice oa n cap, .int .i64 cp] 45) = w4 at HR0 ⊢
  obtain ⟨wi, hwi⟩ : ∃ wi, wi = w3 := ⟨_, rfl⟩
  subst hwi
  go_wp2_with fail
  go_step3
  go_wp2_with fail
  go_loopw [10, 12, 13, 38] (fun ev bgv ov iv wr => ∃ (k : Nat) (mk : Int) (Lk : List Fld) (lo : Option Addr) (ln lc : Nat) (bg : Bool) (out : List Fld) (vv : Value), ev = .int .i64 0 ∧ bgv = .bool bg ∧ ov = vv ∧ iv = .int .i64 k ∧ k ≤ N ∧ out.length ≤ k ∧ BkRel w wi cp mk Lk lo ln lc out vv wr ∧ (∀ a, lo = some a → Lk ≠ [] → a.block ≠ w.heap.size + 1) ∧ hRun cp (its.drop k) mk Lk bg out = T) (fun _ _ _ iv _ => N - (intOf iv).toNat)
  case atStart => exact ⟨0, mx, L, oa, n, cap, false, [], _, rfl, rfl, rfl, rfl, Nat.zero_le _, Nat.le_refl _, HR0.out, HSP0.out, HT.out⟩
  case round =>
    obtain ⟨k, mk, Lk, lo, ln, lc, bg, out, vv, rfl, rfl, hv, rfl, hk, hol, hrel, hsp, hrun⟩ := hrel
    obtain rfl := hv.symm
    have HR := Lib.hid hrel
    have HSP := Lib.hid hsp
    have HRUN := Lib.hid hrun
    have HOL := Lib.hid hol
    have HH := Lib.hid (HHW.out _ HR.out.below)
    have HK := Lib.hid (show N ≤ 5000 by have := HIL.out; have := HNI.out; have := HM5.out; omega)
    have hw8 : IntKind.i64.wrap ((k : Int) + 1) = (k : Int) + 1 := IntWalk.i64_in _ (by have := HK.out; omega)
    clear hrel hsp hrun hol hv HR0 HSP0 HT HH0
    by_cases hlt : k < N
    · have q1 : decide ((k : Int) < (N : Int)) = true := decide_eq_true (by omega)
      obtain ⟨x, hx⟩ : ∃ x, its[k]? = some x := ⟨its[k]'(by rw [HNI.out]; exact hlt), List.getElem?_eq_getElem _⟩
      have HDR := Lib.hid (show its.drop k = x :: its.drop (k + 1) from by
        obtain ⟨h1, h2⟩ := List.getElem?_eq_some_iff.1 hx
        rw [List.drop_eq_getElem_cons h1, h2])
      have HG := Lib.hid (HGOT.out x (List.mem_of_getElem? hx))
      obtain ⟨b0, o0, hoi, i0c, i1c, i2c, i3c⟩ := (HITW.out _ HR.out.below) k x hx
      obtain ⟨kd, ix, nm, vl⟩ := x
      have HRU := Lib.hid (show (if kd = 4 ∧ bg = true then (mk, Lk, out, 10) else if (hSt mk cp Lk ⟨kd, ix, nm, vl⟩).2.2.2.2 ≠ 0 then (mk, Lk, out, (hSt mk cp Lk ⟨kd, ix, nm, vl⟩).2.2.2.2) else if (hSt mk cp Lk ⟨kd, ix, nm, vl⟩).2.2.2.1 = true then hRun cp (its.drop (k + 1)) (hSt mk cp Lk ⟨kd, ix, nm, vl⟩).1 (hSt mk cp Lk ⟨kd, ix, nm, vl⟩).2.1 true (out ++ [(hSt mk cp Lk ⟨kd, ix, nm, vl⟩).2.2.1]) else hRun cp (its.drop (k + 1)) (hSt mk cp Lk ⟨kd, ix, nm, vl⟩).1 (hSt mk cp Lk ⟨kd, ix, nm, vl⟩).2.1 bg out) = T from by have := HRUN.out; rw [HDR.out] at this; exact this)
      have HSTC := Lib.hid (hSt_chk (mx := mk) (cp := cp) (L := Lk) ⟨kd, ix, nm, vl⟩ HR.out.chk)
      have hnm4 : nm.size ≤ 40000 := by have h1 : nm.size ≤ _ := HG.out.name; have h2 := HM5.out; omega
      have hvl4 : vl.size ≤ 40000 := by have h1 : vl.size ≤ _ := HG.out.value; have h2 := HM5.out; omega
      have HSTL := Lib.hid (hSt_light (mx := mk) (cp := cp) (L := Lk) (x := ⟨kd, ix, nm, vl⟩) HR.out.chk hnm4 hvl4)
      have HSTP := Lib.hid (show ∀ W, FieldsN W lo Lk → Calls Try.prog 39 #[.agg #[.int .i64 mk, .slice lo ln lc, .int .i64 cp], .agg #[.int .u8 (kd : Int), .int .i64 ix, .string nm, .string vl]] W (StepPost lo mk cp Lk ⟨kd, ix, nm, vl⟩ W) from fun W hW => by
        have hck := chk_light (hchk_zero.1 HR.out.chk).1
        have hkd := HG.out.kind
        have hlo := HG.out.lo
        have hhi := HG.out.hi
        dsimp only at hkd hlo hhi
        exact step_any mk cp lo ln lc Lk HR.out.len HR.out.cap hck.2 (by have := HR.out.len; have := hck.1; omega) kd (by omega) ix nm vl (lit_wf hlo hhi) hvl4 hnm4 W hW)
      unfold StepPost at HSTP
      generalize hSt mk cp Lk ⟨kd, ix, nm, vl⟩ = S at HSTP HRU HSTC HSTL
      obtain ⟨s1, s2, s3, s4, s5⟩ := S
      dsimp only at HSTP HRU HSTC HSTL i0c i1c i2c i3c
      subst hoi
      clear hx HGOT HG hnm4 hvl4 HRUN HDR
      have HFN := Lib.hid HR.out.fl
      go_upto_region 12 with fail
      have HX := Lib.hid (IRow.new wr kd ix nm vl)
      replace HR := Lib.hid (HR.out.step ((Below.refl _ _).alloc (Nat.le_refl _) (.cells #[.int .u8 (kd : Int), .int .i64 ix, .string nm, .string vl] 49)))
      replace HH := Lib.hid (HHW.out _ HR.out.below)
      generalize wr.alloc (.cells #[.int .u8 (kd : Int), .int .i64 ix, .string nm, .string vl] 49) = w5 at HX HR HH ⊢
      clear i0c i1c i2c i3c HFN
      have x0 := HX.out.c0
      have x1 := HX.out.c1
      have x2 := HX.out.c2
      have x3 := HX.out.c3
      have r0 := HR.out.row.c0
      have r1 := HR.out.row.c1
      have r2 := HR.out.row.c2
      by_cases hord : kd = 4 ∧ bg = true
      · have HE := Lib.hid ((if_pos hord).symm.trans HRU.out)
        have q2 : ((kd : Int) == 4) = true := by rw [hord.1]; rfl
        obtain ⟨_, rfl⟩ := hord
        have HBK := Lib.hid (show R = (mx, L, [], false, 10) from by rw [HBK0.out, ← HE.out]; rfl)
        clear HBK0 HE HRU
        have c0 := HH.out.st.c0
        have c1 := HH.out.st.c1
        have c2 := HH.out.st.c2
        go_wp2_with (first | (refine wpList_store_row rfl _ _ _ rfl (w.heap.size + 1) #[.int .i64 mx, .slice oa n cap, .int .i64 cp] rfl rfl _ _ HH.out.rs (by kernel_rfl) rfl (by kernel_rfl) ?_))
        try rw [Exit.noGoto_ret]
        exact bodyPost_ret (v := .tuple #[.agg #[.int .i64 mx, .slice oa n cap, .int .i64 cp], .slice none 0 0, .bool false, .int .i64 10]) (res_cell4 rfl _ _ (w.heap.size + 1) _ _ (0, 0) _ rfl (setRow_heap _ _ _ _ _ _ HH.out.rs) Try.underlying45 rfl (by kernel_rfl) _ _ _ rfl rfl rfl) rfl
          ⟨oa, n, cap, none, 0, 0, by rw [HBK.out], by rw [HBK.out]; exact HN.out, hnc, by rw [HBK.out]; exact HFW.out _ (below_row HH.out.below (by omega) _), by rw [HBK.out]; rfl, Nat.le_refl _, by rw [HBK.out]; exact FieldsN.nil _ _, below_row HH.out.below (by omega) _⟩
      · replace HRU := Lib.hid ((if_neg hord).symm.trans HRU.out)
        obtain ⟨b4, q2⟩ : ∃ b, ((kd : Int) == 4) = b := ⟨_, rfl⟩
        have q3 : b4 = true → bg = false := fun hb4 => by
          cases bg
          · rfl
          · exact absurd ⟨by rw [hb4] at q2; have := eq_of_beq q2; omega, rfl⟩ hord
        have Q3 := Lib.hid q3
        clear q3 hord
        have HWK := Lib.hid (show ∀ b5 : Bool, True from fun _ => trivial)
        by_cases hs5 : s5 = 0
        · subst hs5
          replace HRU := Lib.hid ((if_neg (by simp)).symm.trans HRU.out)
          have HCK2 := Lib.hid (HSTC.out rfl)
          clear HSTC
          cases b4
          · go_upto_region 15 with (first | (go_at_call 39; refine (HSTP.out _ HR.out.fl).mono ?_; rintro e w6 ⟨lo2, ln2, lc2, rfl, hlen2, hcap2, hfl2, hpos2, hb⟩; have HV2 := Lib.hid (And.intro hlen2 (And.intro hcap2 (And.intro hfl2 (And.intro hpos2 hb)))); clear hlen2 hcap2 hfl2 hpos2 hb))
            have HQ1 := Lib.hid (HRow.new w6 s1 cp (.slice lo2 ln2 lc2))
            have HQ2 := Lib.hid (show FRow ((w6.alloc (.cells #[.int .i64 s1, .slice lo2 ln2 lc2, .int .i64 cp] 45)).alloc (.cells #[.string s3.name, .string s3.value, .bool s3.never] 25)) (w6.heap.size + 1) s3 from two1 _ _ _)
            replace HQ1 := Lib.hid (HQ1.out.step ((Below.refl _ _).alloc (Nat.le_refl _) (.cells #[.string s3.name, .string s3.value, .bool s3.never] 25)))
            have HB67 := Lib.hid (show Below w6.heap.size w6 ((w6.alloc (.cells #[.int .i64 s1, .slice lo2 ln2 lc2, .int .i64 cp] 45)).alloc (.cells #[.string s3.name, .string s3.value, .bool s3.never] 25)) from bs_hd ((Below.refl _ _).alloc (Nat.le_refl _) _) ((Below.refl _ _).alloc (Nat.le_refl _) _))
            generalize ((w6.alloc (.cells #[.int .i64 s1, .slice lo2 ln2 lc2, .int .i64 cp] 45)).alloc (.cells #[.string s3.name, .string s3.value, .bool s3.never] 25)) = w7 at HQ1 HQ2 HB67 ⊢
            have HRN := Lib.hid (HR.out.next (bs_hd HV2.out.2.2.2.2 HB67.out) HV2.out.1 HV2.out.2.1 (HV2.out.2.2.1.below HB67.out) HV2.out.2.2.2.1 HCK2.out)
            have HGT6 := Lib.hid (show wi.heap.size < w6.heap.size from Nat.lt_of_lt_of_le HR.out.gt HV2.out.2.2.2.2.size)
            have HSP2 := Lib.hid (show ∀ a, lo2 = some a → s2 ≠ [] → a.block ≠ w.heap.size + 1 from fun a ha hne => by
              rcases HV2.out.2.2.2.1 with ⟨e1, e2⟩ | hp
              · exact HSP.out a (e1 ▸ ha) (e2 ▸ hne)
              · have := hp a ha; have := HR.out.gt; have := HGW.out; omega)
            have HRW := Lib.hid (HR.out.step (bs_hd HV2.out.2.2.2.2 HB67.out)).row
            clear x0 x1 x2 x3 r0 r1 r2 HX
            have t0 := HQ1.out.c0
            have t1 := HQ1.out.c1
            have t2 := HQ1.out.c2
            go_upto_region 18 with (first | (refine wpList_store_row rfl _ _ _ rfl wi.heap.size #[.int .i64 s1, .slice lo2 ln2 lc2, .int .i64 cp] rfl rfl _ _ HRW.out (by kernel_rfl) rfl (by kernel_rfl) ?_))
            replace HQ2 := Lib.hid (show FRow (w7.setRow wi.heap.size #[.int .i64 s1, .slice lo2 ln2 lc2, .int .i64 cp]) (w6.heap.size + 1) s3 from (setRow_other _ _ _ _ (by have := HGT6.out; omega)).trans HQ2.out)
            generalize w7.setRow wi.heap.size #[.int .i64 s1, .slice lo2 ln2 lc2, .int .i64 cp] = w8 at HRN HQ2 ⊢
            clear t0 t1 t2 HQ1 HB67 HRW HR HH HV2
            cases s4
            · replace HRU := Lib.hid ((if_neg (by simp)).symm.trans HRU.out)
              go_wp2_with fail
              go_roundw
              case rel => exact ⟨k + 1, s1, s2, lo2, ln2, lc2, _, out, _, rfl, rfl, rfl, by go_num, by omega, by have := HOL.out; omega, HRN.out, HSP2.out, HRU.out⟩
              case measure => simp [intOf]; omega
            · replace HRU := Lib.hid ((if_pos rfl).symm.trans HRU.out)
              have f0 := HQ2.out.c0
              have f1 := HQ2.out.c1
              have f2 := HQ2.out.c2
              have HONE := Lib.hid (show ∀ u ∈ [Value.string s3.name, .string s3.value, .bool s3.never], u.oneCell' = true from by intro u hu; simp at hu; rcases hu with rfl | rfl | rfl <;> rfl)
              have HRA := Lib.hid (HRN.out.step ((Below.refl _ _).alloc (Nat.le_refl _) (.cells #[.string s3.name, .string s3.value, .bool s3.never] 25)))
              have HSZ8 := Lib.hid (show wi.heap.size + 1 ≤ (w8.alloc (.cells #[.string s3.name, .string s3.value, .bool s3.never] 25)).heap.size from HRA.out.gt)
              go_wp2_with (first | (at_builtin; refine wpList_append_own_at _ rfl _ _ 26 rfl (wi.heap.size + 1) 25 i0 _ 3 40 Try.underlying26 HI.out HZ0.out HZ1.out HZ2.out rfl (by omega) _ _ _ rfl HRA.out.own ⟨w8.heap.size, 0, none⟩ 1 1 [Value.string s3.name, .string s3.value, .bool s3.never] rfl rfl (cells_new w8 [Value.string s3.name, .string s3.value, .bool s3.never] _) HONE.out (by unfold maxLen; have := HOL.out; have := HK.out; omega) (by have := HOL.out; have := HK.out; omega) HSZ8.out ?_; intro v9 w9 hown9 hg9 _ hat9; have HR9 := Lib.hid (HRA.out.told HSTL.out hg9 (by unfold OwnF; rw [fcells_append, List.length_append]; exact (by simpa [fcells, Fld.cells] using hown9)) hat9); clear hown9 hg9 hat9))
              go_roundw
              case rel => exact ⟨k + 1, s1, s2, lo2, ln2, lc2, true, out ++ [s3], _, rfl, rfl, rfl, by go_num, by omega, by have := HOL.out; simp; omega, HR9.out, HSP2.out, HRU.out⟩
              case measure => simp [intOf]; omega
          · obtain rfl := Q3.out rfl
            go_upto_region 15 with (first | (go_at_call 39; refine (HSTP.out _ HR.out.fl).mono ?_; rintro e w6 ⟨lo2, ln2, lc2, rfl, hlen2, hcap2, hfl2, hpos2, hb⟩; have HV2 := Lib.hid (And.intro hlen2 (And.intro hcap2 (And.intro hfl2 (And.intro hpos2 hb)))); clear hlen2 hcap2 hfl2 hpos2 hb))
            have HQ1 := Lib.hid (HRow.new w6 s1 cp (.slice lo2 ln2 lc2))
            have HQ2 := Lib.hid (show FRow ((w6.alloc (.cells #[.int .i64 s1, .slice lo2 ln2 lc2, .int .i64 cp] 45)).alloc (.cells #[.string s3.name, .string s3.value, .bool s3.never] 25)) (w6.heap.size + 1) s3 from two1 _ _ _)
            replace HQ1 := Lib.hid (HQ1.out.step ((Below.refl _ _).alloc (Nat.le_refl _) (.cells #[.string s3.name, .string s3.value, .bool s3.never] 25)))
            have HB67 := Lib.hid (show Below w6.heap.size w6 ((w6.alloc (.cells #[.int .i64 s1, .slice lo2 ln2 lc2, .int .i64 cp] 45)).alloc (.cells #[.string s3.name, .string s3.value, .bool s3.never] 25)) from bs_hd ((Below.refl _ _).alloc (Nat.le_refl _) _) ((Below.refl _ _).alloc (Nat.le_refl _) _))
            generalize ((w6.alloc (.cells #[.int .i64 s1, .slice lo2 ln2 lc2, .int .i64 cp] 45)).alloc (.cells #[.string s3.name, .string s3.value, .bool s3.never] 25)) = w7 at HQ1 HQ2 HB67 ⊢
            have HRN := Lib.hid (HR.out.next (bs_hd HV2.out.2.2.2.2 HB67.out) HV2.out.1 HV2.out.2.1 (HV2.out.2.2.1.below HB67.out) HV2.out.2.2.2.1 HCK2.out)
            have HGT6 := Lib.hid (show wi.heap.size < w6.heap.size from Nat.lt_of_lt_of_le HR.out.gt HV2.out.2.2.2.2.size)
            have HSP2 := Lib.hid (show ∀ a, lo2 = some a → s2 ≠ [] → a.block ≠ w.heap.size + 1 from fun a ha hne => by
              rcases HV2.out.2.2.2.1 with ⟨e1, e2⟩ | hp
              · exact HSP.out a (e1 ▸ ha) (e2 ▸ hne)
              · have := hp a ha; have := HR.out.gt; have := HGW.out; omega)
            have HRW := Lib.hid (HR.out.step (bs_hd HV2.out.2.2.2.2 HB67.out)).row
            clear x0 x1 x2 x3 r0 r1 r2 HX
            have t0 := HQ1.out.c0
            have t1 := HQ1.out.c1
            have t2 := HQ1.out.c2
            go_upto_region 18 with (first | (refine wpList_store_row rfl _ _ _ rfl wi.heap.size #[.int .i64 s1, .slice lo2 ln2 lc2, .int .i64 cp] rfl rfl _ _ HRW.out (by kernel_rfl) rfl (by kernel_rfl) ?_))
            replace HQ2 := Lib.hid (show FRow (w7.setRow wi.heap.size #[.int .i64 s1, .slice lo2 ln2 lc2, .int .i64 cp]) (w6.heap.size + 1) s3 from (setRow_other _ _ _ _ (by have := HGT6.out; omega)).trans HQ2.out)
            generalize w7.setRow wi.heap.size #[.int .i64 s1, .slice lo2 ln2 lc2, .int .i64 cp] = w8 at HRN HQ2 ⊢
            clear t0 t1 t2 HQ1 HB67 HRW HR HH HV2
            cases s4
            · replace HRU := Lib.hid ((if_neg (by simp)).symm.trans HRU.out)
              go_wp2_with fail
              go_roundw
              case rel => exact ⟨k + 1, s1, s2, lo2, ln2, lc2, _, out, _, rfl, rfl, rfl, by go_num, by omega, by have := HOL.out; omega, HRN.out, HSP2.out, HRU.out⟩
              case measure => simp [intOf]; omega
            · replace HRU := Lib.hid ((if_pos rfl).symm.trans HRU.out)
              have f0 := HQ2.out.c0
              have f1 := HQ2.out.c1
              have f2 := HQ2.out.c2
              have HONE := Lib.hid (show ∀ u ∈ [Value.string s3.name, .string s3.value, .bool s3.never], u.oneCell' = true from by intro u hu; simp at hu; rcases hu with rfl | rfl | rfl <;> rfl)
              have HRA := Lib.hid (HRN.out.step ((Below.refl _ _).alloc (Nat.le_refl _) (.cells #[.string s3.name, .string s3.value, .bool s3.never] 25)))
              have HSZ8 := Lib.hid (show wi.heap.size + 1 ≤ (w8.alloc (.cells #[.string s3.name, .string s3.value, .bool s3.never] 25)).heap.size from HRA.out.gt)
              go_wp2_with (first | (at_builtin; refine wpList_append_own_at _ rfl _ _ 26 rfl (wi.heap.size + 1) 25 i0 _ 3 40 Try.underlying26 HI.out HZ0.out HZ1.out HZ2.out rfl (by omega) _ _ _ rfl HRA.out.own ⟨w8.heap.size, 0, none⟩ 1 1 [Value.string s3.name, .string s3.value, .bool s3.never] rfl rfl (cells_new w8 [Value.string s3.name, .string s3.value, .bool s3.never] _) HONE.out (by unfold maxLen; have := HOL.out; have := HK.out; omega) (by have := HOL.out; have := HK.out; omega) HSZ8.out ?_; intro v9 w9 hown9 hg9 _ hat9; have HR9 := Lib.hid (HRA.out.told HSTL.out hg9 (by unfold OwnF; rw [fcells_append, List.length_append]; exact (by simpa [fcells, Fld.cells] using hown9)) hat9); clear hown9 hg9 hat9))
              go_roundw
              case rel => exact ⟨k + 1, s1, s2, lo2, ln2, lc2, true, out ++ [s3], _, rfl, rfl, rfl, by go_num, by omega, by have := HOL.out; simp; omega, HR9.out, HSP2.out, HRU.out⟩
              case measure => simp [intOf]; omega
        · have HE := Lib.hid ((if_pos hs5).symm.trans HRU.out)
          have q5 : (s5 == 0) = false := beq_eq_false_iff_ne.2 hs5
          have HBK := Lib.hid (show R = (mx, L, [], false, s5) from by rw [HBK0.out, ← HE.out]; exact if_pos hs5)
          clear HBK0 HE HRU HSTC hs5
          cases b4
          · go_upto_region 15 with (first | (go_at_call 39; refine (HSTP.out _ HR.out.fl).mono ?_; rintro e w6 ⟨lo2, ln2, lc2, rfl, hlen2, hcap2, hfl2, hpos2, hb⟩; have HV2 := Lib.hid (And.intro hlen2 (And.intro hcap2 (And.intro hfl2 (And.intro hpos2 hb)))); clear hlen2 hcap2 hfl2 hpos2 hb))
            have HB6 := Lib.hid (show Below w5.heap.size w5 ((w6.alloc (.cells #[.int .i64 s1, .slice lo2 ln2 lc2, .int .i64 cp] 45)).alloc (.cells #[.string s3.name, .string s3.value, .bool s3.never] 25)) from bs_hd (bs_hd HV2.out.2.2.2.2 ((Below.refl _ _).alloc (Nat.le_refl _) _)) ((Below.refl _ _).alloc (Nat.le_refl _) _))
            replace HR := Lib.hid (HR.out.step HB6.out)
            replace HH := Lib.hid (HHW.out _ HR.out.below)
            generalize ((w6.alloc (.cells #[.int .i64 s1, .slice lo2 ln2 lc2, .int .i64 cp] 45)).alloc (.cells #[.string s3.name, .string s3.value, .bool s3.never] 25)) = w7 at HR HH HB6 ⊢
            clear x0 x1 x2 x3 r0 r1 r2 HX
            have c0 := HH.out.st.c0
            have c1 := HH.out.st.c1
            have c2 := HH.out.st.c2
            go_wp2_with (first | (refine wpList_store_row rfl _ _ _ rfl (w.heap.size + 1) #[.int .i64 mx, .slice oa n cap, .int .i64 cp] rfl rfl _ _ HH.out.rs (by kernel_rfl) rfl (by kernel_rfl) ?_))
            try rw [Exit.noGoto_ret]
            exact bodyPost_ret (v := .tuple #[.agg #[.int .i64 mx, .slice oa n cap, .int .i64 cp], .slice none 0 0, .bool false, .int .i64 s5]) (res_cell4 rfl _ _ (w.heap.size + 1) _ _ (0, 0) _ rfl (setRow_heap _ _ _ _ _ _ HH.out.rs) Try.underlying45 rfl (by kernel_rfl) _ _ _ rfl rfl rfl) rfl
              ⟨oa, n, cap, none, 0, 0, by rw [HBK.out], by rw [HBK.out]; exact HN.out, hnc, by rw [HBK.out]; exact HFW.out _ (below_row HH.out.below (by omega) _), by rw [HBK.out]; rfl, Nat.le_refl _, by rw [HBK.out]; exact FieldsN.nil _ _, below_row HH.out.below (by omega) _⟩
          · obtain rfl := Q3.out rfl
            go_upto_region 15 with (first | (go_at_call 39; refine (HSTP.out _ HR.out.fl).mono ?_; rintro e w6 ⟨lo2, ln2, lc2, rfl, hlen2, hcap2, hfl2, hpos2, hb⟩; have HV2 := Lib.hid (And.intro hlen2 (And.intro hcap2 (And.intro hfl2 (And.intro hpos2 hb)))); clear hlen2 hcap2 hfl2 hpos2 hb))
            have HB6 := Lib.hid (show Below w5.heap.size w5 ((w6.alloc (.cells #[.int .i64 s1, .slice lo2 ln2 lc2, .int .i64 cp] 45)).alloc (.cells #[.string s3.name, .string s3.value, .bool s3.never] 25)) from bs_hd (bs_hd HV2.out.2.2.2.2 ((Below.refl _ _).alloc (Nat.le_refl _) _)) ((Below.refl _ _).alloc (Nat.le_refl _) _))
            replace HR := Lib.hid (HR.out.step HB6.out)
            replace HH := Lib.hid (HHW.out _ HR.out.below)
            generalize ((w6.alloc (.cells #[.int .i64 s1, .slice lo2 ln2 lc2, .int .i64 cp] 45)).alloc (.cells #[.string s3.name, .string s3.value, .bool s3.never] 25)) = w7 at HR HH HB6 ⊢
            clear x0 x1 x2 x3 r0 r1 r2 HX
            have c0 := HH.out.st.c0
            have c1 := HH.out.st.c1
            have c2 := HH.out.st.c2
            go_wp2_with (first | (refine wpList_store_row rfl _ _ _ rfl (w.heap.size + 1) #[.int .i64 mx, .slice oa n cap, .int .i64 cp] rfl rfl _ _ HH.out.rs (by kernel_rfl) rfl (by kernel_rfl) ?_))
            try rw [Exit.noGoto_ret]
            exact bodyPost_ret (v := .tuple #[.agg #[.int .i64 mx, .slice oa n cap, .int .i64 cp], .slice none 0 0, .bool false, .int .i64 s5]) (res_cell4 rfl _ _ (w.heap.size + 1) _ _ (0, 0) _ rfl (setRow_heap _ _ _ _ _ _ HH.out.rs) Try.underlying45 rfl (by kernel_rfl) _ _ _ rfl rfl rfl) rfl
              ⟨oa, n, cap, none, 0, 0, by rw [HBK.out], by rw [HBK.out]; exact HN.out, hnc, by rw [HBK.out]; exact HFW.out _ (below_row HH.out.below (by omega) _), by rw [HBK.out]; rfl, Nat.le_refl _, by rw [HBK.out]; exact FieldsN.nil _ _, below_row HH.out.below (by omega) _⟩
    · obtain rfl : k = N := by omega
      have q1 : decide ((k : Int) < (k : Int)) = false := by simp
      have HE := Lib.hid (show (mk, Lk, out, 0) = T from by have := HRUN.out; rw [List.drop_of_length_le (by rw [HNI.out]; exact Nat.le_refl _)] at this; exact this)
      have HBK := Lib.hid (show R = if 1024 < sumF out then (mk, Lk, [], false, 0) else (mk, Lk, out, true, 0) from by rw [HBK0.out, ← HE.out]; rfl)
      clear HBK0 HE HRUN
      have HBW := Lib.hid HR.out
      obtain ⟨oo, co, hvo, hfo, hoc, _, _⟩ := HR.out.own.form
      have HFO := Lib.hid hfo
      have HOC := Lib.hid hoc
      generalize hno : out.length = no at hvo HOC
      have HNO := Lib.hid hno
      obtain rfl := hvo
      have HSZ := Lib.hid (fun W hW => hsize_more oo no co out HNO.out HR.out.light (by have := HK.out; have := HOL.out; have := HNO.out; omega) W hW)
      have r0 := HR.out.row.c0
      have r1 := HR.out.row.c1
      have r2 := HR.out.row.c2
      have HGI := Lib.hid (show w.heap.size + 1 < wi.heap.size from HGW.out)
      clear hfo hoc hno
      by_cases hbig : 1024 < sumF out
      · have q6 : decide ((1024 : Int) < (sumF out : Nat)) = true := decide_eq_true (by omega)
        have HBK2 := Lib.hid (HBK.out.trans (if_pos hbig))
        generalize sumF out = S at HSZ q6
        clear hbig HBK
        go_wp2_with (first | (go_at_call 24; refine (HSZ.out _ HFO.out).mono ?_; rintro e w9 ⟨rfl, hb⟩; replace HR := Lib.hid (HR.out.step hb); replace HH := Lib.hid (HH.out.step hb); clear hb; have r0 := HR.out.row.c0; have r1 := HR.out.row.c1; have r2 := HR.out.row.c2) | (refine wpList_store_row rfl _ _ _ rfl (w.heap.size + 1) #[.int .i64 mk, .slice lo ln lc, .int .i64 cp] rfl rfl _ _ HH.out.rs (by kernel_rfl) rfl (by kernel_rfl) ?_))
        have HNE := Lib.hid (show Lk ≠ [] → ∀ a, lo = some a → a.block ≠ w.heap.size + 1 from fun hne a ha => HSP.out a ha hne)
        try rw [Exit.noGoto_ret]
        exact bodyPost_ret (v := .tuple #[.agg #[.int .i64 mk, .slice lo ln lc, .int .i64 cp], .slice none 0 0, .bool false, .int .i64 0]) (res_cell4 rfl _ _ (w.heap.size + 1) _ _ (0, 0) _ rfl (setRow_heap _ _ _ _ _ _ HH.out.rs) Try.underlying45 rfl (by kernel_rfl) _ _ _ rfl rfl rfl) rfl
          ⟨lo, ln, lc, none, 0, 0, by rw [HBK2.out], by rw [HBK2.out]; exact HR.out.len, HR.out.cap, by rw [HBK2.out]; exact HR.out.fl.setRow HNE.out _, by rw [HBK2.out]; rfl, Nat.le_refl _, by rw [HBK2.out]; exact FieldsN.nil _ _, below_row HH.out.below (by omega) _⟩
      · have q6 : decide ((1024 : Int) < (sumF out : Nat)) = false := decide_eq_false (by omega)
        have HBK2 := Lib.hid (HBK.out.trans (if_neg hbig))
        generalize sumF out = S at HSZ q6
        clear hbig HBK
        go_wp2_with (first | (go_at_call 24; refine (HSZ.out _ HFO.out).mono ?_; rintro e w9 ⟨rfl, hb⟩; replace HR := Lib.hid (HR.out.step hb); replace HH := Lib.hid (HH.out.step hb); replace HFO := Lib.hid (HFO.out.below hb); clear hb; have r0 := HR.out.row.c0; have r1 := HR.out.row.c1; have r2 := HR.out.row.c2) | (refine wpList_store_row rfl _ _ _ rfl (w.heap.size + 1) #[.int .i64 mk, .slice lo ln lc, .int .i64 cp] rfl rfl _ _ HH.out.rs (by kernel_rfl) rfl (by kernel_rfl) ?_))
        have HNE := Lib.hid (show Lk ≠ [] → ∀ a, lo = some a → a.block ≠ w.heap.size + 1 from fun hne a ha => HSP.out a ha hne)
        have HNO2 := Lib.hid (show out ≠ [] → ∀ a, oo = some a → a.block ≠ w.heap.size + 1 from fun hne a ha => by
          obtain ⟨_, _, e, _, _, _, hx⟩ := HR.out.own.form
          injection e with e _ _
          have := (hx a (e ▸ ha)).1
          have := HGI.out
          omega)
        try rw [Exit.noGoto_ret]
        exact bodyPost_ret (v := .tuple #[.agg #[.int .i64 mk, .slice lo ln lc, .int .i64 cp], .slice oo no co, .bool true, .int .i64 0]) (res_cell4 rfl _ _ (w.heap.size + 1) _ _ (0, 0) _ rfl (setRow_heap _ _ _ _ _ _ HH.out.rs) Try.underlying45 rfl (by kernel_rfl) _ _ _ rfl rfl rfl) rfl
          ⟨lo, ln, lc, oo, no, co, by rw [HBK2.out], by rw [HBK2.out]; exact HR.out.len, HR.out.cap, by rw [HBK2.out]; exact HR.out.fl.setRow HNE.out _, by rw [HBK2.out]; exact HNO.out, by have := HOC.out; omega, by rw [HBK2.out]; exact HFO.out.setRow HNO2.out _, below_row HH.out.below (by omega) _⟩
theorem hblock_any (mx cp : Int) (oa : Option Addr) (n cap : Nat) (L : List Fld) (hn : L.length = n) (hnc : n ≤ cap) (hl : ∀ f ∈ L, lightF f = true) (hn30 : n ≤ 1000) (ob : Option Addr) (m capb : Nat) (bs : List Nat) (hm : bs.length = m) (hmc : m ≤ capb) (hm5 : m ≤ 5000) (w : World) (hf : FieldsN w oa L) (hby : BytesN w ob bs) (hb256 : ∀ i, i < bs.length → bs.getD i 0 < 256) :
    Calls Try.prog 27 #[.agg #[.int .i64 mx, .slice oa n cap, .int .i64 cp], .slice ob m capb] w (BlkPost mx cp L bs w) := by
  by_cases h0 : hchk mx cp L = 0
  · by_cases h1 : (allG bs).2 = 0
    · exact hblock_yes mx cp oa n cap L hn hnc hl hn30 ob m capb bs hm hmc hm5 w hf hby hb256 h0 h1
    · exact hblock_no mx cp oa n cap L hn hnc hl hn30 ob m capb bs hm hmc hm5 w hf hby hb256 (.inr h1)
  · exact hblock_no mx cp oa n cap L hn hnc hl hn30 ob m capb bs hm hmc hm5 w hf hby hb256 (.inl h0)
end Go.Proofs.Yteceinojmdgmeaa

