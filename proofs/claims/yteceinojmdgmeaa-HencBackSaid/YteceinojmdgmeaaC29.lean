/- HdB · HdC: joined by a program, for a claim has at most 60 files. -/
import Derived.Test.YteceinojmdgmeaaC27
import Derived.Test.YteceinojmdgmeaaC28
import Derived.Test.YteceinojmdgmeaaC13
import Derived.Laws.ResultCell
/- hdec: Check, New, Size, Same. -/
namespace Go.Proofs.Yteceinojmdgmeaa
open Go.RowKit
set_option linter.unusedVariables false
set_option linter.unusedSimpArgs false

/-- Whether a state may be: the error's number. -/
def hchk (mx cp : Int) (L : List Fld) : Int := if chkN mx L ≠ 0 then chkN mx L else if 4096 < cp ∨ cp < mx then 8 else 0
theorem rt_i {a b : Int} (h : a = b) : Ending.returned (.int .i64 a) = .returned (.int .i64 b) := by rw [h]
theorem rt_b {a b : Bool} (h : a = b) : Ending.returned (.bool a) = .returned (.bool b) := by rw [h]
def HRow (W : World) (q : Nat) (mx : Int) (v : Value) (cp : Int) : Prop := W.heap[q]? = some (.cells #[.int .i64 mx, v, .int .i64 cp] 45 (0, 0))
theorem HRow.c0 {W : World} {q : Nat} {m c : Int} {v : Value} (h : HRow W q m v c) : W.cell? ⟨q, 0, none⟩ = some (.int .i64 m) := cell_of_row _ _ _ _ _ _ h
theorem HRow.c1 {W : World} {q : Nat} {m c : Int} {v : Value} (h : HRow W q m v c) : W.cell? ⟨q, 1, none⟩ = some v := cell_of_row _ _ _ _ _ _ h
theorem HRow.c2 {W : World} {q : Nat} {m c : Int} {v : Value} (h : HRow W q m v c) : W.cell? ⟨q, 2, none⟩ = some (.int .i64 c) := cell_of_row _ _ _ _ _ _ h
theorem HRow.lt {W : World} {q : Nat} {m c : Int} {v : Value} (h : HRow W q m v c) : q < W.heap.size := World.block_lt_of_cell? W ⟨q, 0, none⟩ h.c0
theorem HRow.step {W W' : World} {q : Nat} {m c : Int} {v : Value} (h : HRow W q m v c) (hb : Below W.heap.size W W') : HRow W' q m v c := (hb.block q h.lt).trans h
theorem HRow.new (W : World) (m c : Int) (v : Value) : HRow (W.alloc (.cells #[.int .i64 m, v, .int .i64 c] 45)) W.heap.size m v c := heap_alloc_new W _
set_option maxRecDepth 100000 in
set_option maxHeartbeats 2000000 in
theorem hcheck_any (mx cp : Int) (oa : Option Addr) (n cap : Nat) (L : List Fld) (hn : L.length = n) (hl : ∀ f ∈ L, lightF f = true) (hn30 : n ≤ 1000) (w : World) (hf : FieldsN w oa L) :
    Calls Try.prog 21 #[.agg #[.int .i64 mx, .slice oa n cap, .int .i64 cp]] w fun e w' => e = .returned (.int .i64 (hchk mx cp L)) ∧ Below w.heap.size w w' := by
  have HB := Lib.hid ((Below.refl w.heap.size w).alloc (Nat.le_refl _) (.cells #[.int .i64 mx, .slice oa n cap, .int .i64 cp] 45))
  have HR := Lib.hid (HRow.new w mx cp (.slice oa n cap))
  have HC := Lib.hid (fun W (hW : Below w.heap.size w W) => check_any mx oa n cap L hn hl hn30 W (hf.below hW))
  have HV : Hid (hchk mx cp L = if chkN mx L ≠ 0 then chkN mx L else if 4096 < cp ∨ cp < mx then 8 else 0) := Lib.hid rfl
  generalize chkN mx L = k at HC HV
  clear hf hl hn
  go_enter Try.func21, Try.ntmps21
  go_upto_region 1 with fail
  generalize w.alloc (.cells #[.int .i64 mx, .slice oa n cap, .int .i64 cp] 45) = w1 at HB HR ⊢
  have c0 := HR.out.c0
  have c1 := HR.out.c1
  have c2 := HR.out.c2
  go_upto_region 2 with (first | (go_at_call 45; refine (HC.out _ HB.out).mono ?_; rintro e w2 ⟨rfl, hb⟩; have HB2 := Lib.hid (bs_hd HB.out hb); have HR2 := Lib.hid (HR.out.step hb); clear hb))
  clear c0 c1 c2
  have c0 := HR2.out.c0
  have c2 := HR2.out.c2
  by_cases hk : k = 0
  · subst hk
    obtain ⟨b1, q1⟩ : ∃ b, decide ((4096 : Int) < cp) = b := ⟨_, rfl⟩
    obtain ⟨b2, q2⟩ : ∃ b, decide (cp < mx) = b := ⟨_, rfl⟩
    have HV2 : Hid (hchk mx cp L = if (b1 || b2) = true then 8 else 0) := Lib.hid (by rw [HV.out, if_neg (by simp), ← q1, ← q2]; simp)
    cases b1 <;> cases b2
    all_goals
      go_wp2_with fail
      go_ret
      exact ⟨rt_i (by rw [HV2.out]; rfl), HB2.out⟩
  · have q1 : (k == 0) = false := beq_eq_false_iff_ne.2 hk
    have q2 : (k != 0) = true := by rw [bne, q1]; rfl
    have HV2 := Lib.hid (HV.out.trans (if_pos hk))
    go_wp2_with fail
    go_ret
    exact ⟨rt_i HV2.out.symm, HB2.out⟩
set_option maxRecDepth 100000 in
set_option maxHeartbeats 1000000 in
theorem hsize_any (oa : Option Addr) (n cap : Nat) (L : List Fld) (hn : L.length = n) (hl : ∀ f ∈ L, lightF f = true) (hn30 : n ≤ 1000) (w : World) (hf : FieldsN w oa L) :
    Calls Try.prog 24 #[.slice oa n cap] w fun e w' => e = .returned (.int .i64 (sumF L : Nat)) ∧ Below w.heap.size w w' := by
  have HN := Lib.hid hn
  have HF := Lib.hid hf
  have HL := Lib.hid hl
  clear hn hf hl
  go_enter Try.func24, Try.ntmps24
  go_wp2_with fail
  go_loopw [3, 8] (fun s i wr => ∃ k : Nat, k ≤ n ∧ i = .int .i64 k ∧ s = .int .i64 (sumF (L.take k) : Nat) ∧ Below w.heap.size w wr) (fun _ i _ => n - (intOf i).toNat)
  case atStart => exact ⟨0, Nat.zero_le _, rfl, rfl, Below.refl _ _⟩
  case round =>
    obtain ⟨k, hk, rfl, rfl, bk⟩ := hrel
    have BK := Lib.hid bk
    clear bk
    by_cases hlt : k < n
    · have hki : (k : Int) < (n : Int) := by omega
      have hkL : k < L.length := by rw [HN.out]; exact hlt
      have hsl := sumF_le L k HL.out
      have HT := Lib.hid (sumF_take L k hkL)
      have hlf := HL.out L[k] (List.getElem_mem hkL)
      obtain ⟨b, o, rfl, h1, h2, h3⟩ := (HF.out.below BK.out) k L[k] (List.getElem?_eq_getElem hkL)
      generalize L[k] = f at h1 h2 h3 HT hlf
      obtain ⟨nm, vl, nv⟩ := f
      simp only [Fld.sz, lightF, Bool.and_eq_true, decide_eq_true_eq] at h1 h2 h3 HT hlf
      generalize sumF (L.take k) = S at hsl HT ⊢
      go_wp2_with fail
      refine (field_size nm vl nv (by omega) (by omega) _).mono ?_
      rintro e w5 ⟨rfl, hb⟩
      have B5 := Lib.hid ((BK.out.alloc BK.out.size _).trans (hb.mono (by have := BK.out.size; simp; omega)))
      clear hb
      have hw : IntKind.i64.wrap ((S : Int) + ((nm.size : Int) + (vl.size : Int) + 32)) = ((S + (nm.size + vl.size + 32) : Nat) : Int) := by
        rw [show (S : Int) + ((nm.size : Int) + (vl.size : Int) + 32) = ((S + (nm.size + vl.size + 32) : Nat) : Int) from by simp]
        exact IntWalk.i64_in _ (by omega)
      go_wp2_with fail
      go_roundw
      case rel => exact ⟨k + 1, by omega, by go_num, by rw [HT.out]; simp, B5.out⟩
      case measure => simp [intOf]; omega
    · obtain rfl : k = n := by omega
      rw [List.take_of_length_le (by rw [HN.out]; exact Nat.le_refl _)]
      go_wp2_with fail
      go_ret
      exact ⟨rfl, BK.out⟩
set_option maxRecDepth 100000 in
set_option maxHeartbeats 2000000 in
theorem hsame_any (m m2 c c2 : Int) (oa ob : Option Addr) (n nb cap cap' : Nat) (L R : List Fld) (hn : L.length = n) (hnb : R.length = nb) (h100 : n ≤ 1000) (hb100 : nb ≤ 1000) (w : World) (hf : FieldsN w oa L) (hg : FieldsN w ob R) :
    Calls Try.prog 23 #[.agg #[.int .i64 m, .slice oa n cap, .int .i64 c], .agg #[.int .i64 m2, .slice ob nb cap', .int .i64 c2]] w fun e w' => e = .returned (.bool (decide (c = c2) && (decide (m = m2) && sameL L R))) ∧ Below w.heap.size w w' := by
  have HC := Lib.hid (fun W (hW : Below w.heap.size w W) => same_any m m2 oa ob n nb cap cap' L R hn hnb h100 hb100 W (hf.below hW) (hg.below hW))
  generalize (decide (m = m2) && sameL L R) = r at HC ⊢
  have B1 := (Below.refl w.heap.size w).alloc (Nat.le_refl _) (.cells #[.int .i64 m, .slice oa n cap, .int .i64 c] 45)
  have HB := Lib.hid (B1.alloc B1.size (.cells #[.int .i64 m2, .slice ob nb cap', .int .i64 c2] 45))
  have HR := Lib.hid ((HRow.new w m c (.slice oa n cap)).step ((Below.refl _ _).alloc (Nat.le_refl _) (.cells #[.int .i64 m2, .slice ob nb cap', .int .i64 c2] 45)))
  have HS : Hid (HRow ((w.alloc (.cells #[.int .i64 m, .slice oa n cap, .int .i64 c] 45)).alloc (.cells #[.int .i64 m2, .slice ob nb cap', .int .i64 c2] 45)) (w.heap.size + 1) m2 (.slice ob nb cap') c2) := Lib.hid (by
    have := HRow.new (w.alloc (.cells #[.int .i64 m, .slice oa n cap, .int .i64 c] 45)) m2 c2 (.slice ob nb cap')
    simpa using this)
  have e1 : (c == c2) = decide (c = c2) := by rw [Bool.eq_iff_iff]; simp
  generalize decide (c = c2) = b at e1 ⊢
  clear B1 hf hg hn hnb
  go_enter Try.func23, Try.ntmps23
  go_upto_region 1 with fail
  generalize ((w.alloc (.cells #[.int .i64 m, .slice oa n cap, .int .i64 c] 45)).alloc (.cells #[.int .i64 m2, .slice ob nb cap', .int .i64 c2] 45)) = w1 at HB HR HS ⊢
  have x0 := HR.out.c0
  have x1 := HR.out.c1
  have x2 := HR.out.c2
  have y0 := HS.out.c0
  have y1 := HS.out.c1
  have y2 := HS.out.c2
  cases b
  · go_wp2_with fail
    go_ret
    exact ⟨rfl, HB.out⟩
  · go_wp2_with (first | (go_at_call 37; refine (HC.out _ HB.out).mono ?_; rintro e w2 ⟨rfl, hb⟩; replace HB := Lib.hid (bs_hd HB.out hb); clear hb))
    go_ret
    exact ⟨rt_b (by simp), HB.out⟩
end Go.Proofs.Yteceinojmdgmeaa


/- hdec: named; the laws of results that are structs. -/
namespace Go.Proofs.Yteceinojmdgmeaa
open Go.RowKit
set_option linter.unusedVariables false
set_option linter.unusedSimpArgs false

theorem res_cell2 {P : Program} {fn : Func} {p u : Tmp} {ty : TypeId} (h : fn.results = #[.cell p ty, .tmp u]) (tmps : Array Value) (w : World) (g : Nat) (t : TypeId) (cs : Array Value) (fr : Nat × Nat) (d : TypeDesc)
    (hp : tmps.getD p undef = .pointer (some ⟨g, 0, none⟩)) (hg : w.heap[g]? = some (.cells cs t fr))
    (hu : P.underlying ty = some d) (hd : (match d with | .struct _ | .array _ _ => true | _ => false) = true) (hi : (P.info? ty).map (·.size) = some cs.size) (x : Value) (hx : tmps.getD u undef = x) :
    (results fn tmps).run P w = .ok (.tuple #[.agg cs, x]) w := by
  rw [results_cell_tmp h]
  have hp' : tmps[p]?.getD undef = .pointer (some ⟨g, 0, none⟩) := by simpa using hp
  have hx' : tmps[u]?.getD undef = x := by simpa using hx
  simp [hp', hx', asAddr, run_loadVar_row w g t ty cs fr d hg hu hd hi, Result.andThen]
theorem res_cell22 {P : Program} {fn : Func} {p q u v : Tmp} {ty ty2 : TypeId} (h : fn.results = #[.cell p ty, .cell q ty2, .tmp u, .tmp v]) (tmps : Array Value) (w : World) (g g2 : Nat) (t t2 : TypeId) (cs cs2 : Array Value) (fr fr2 : Nat × Nat) (d d2 : TypeDesc)
    (hp : tmps.getD p undef = .pointer (some ⟨g, 0, none⟩)) (hg : w.heap[g]? = some (.cells cs t fr))
    (hu : P.underlying ty = some d) (hd : (match d with | .struct _ | .array _ _ => true | _ => false) = true) (hi : (P.info? ty).map (·.size) = some cs.size)
    (hq : tmps.getD q undef = .pointer (some ⟨g2, 0, none⟩)) (hg2 : w.heap[g2]? = some (.cells cs2 t2 fr2))
    (hu2 : P.underlying ty2 = some d2) (hd2 : (match d2 with | .struct _ | .array _ _ => true | _ => false) = true) (hi2 : (P.info? ty2).map (·.size) = some cs2.size)
    (x y : Value) (hx : tmps.getD u undef = x) (hy : tmps.getD v undef = y) :
    (results fn tmps).run P w = .ok (.tuple #[.agg cs, .agg cs2, x, y]) w := by
  have hp' : tmps[p]?.getD undef = .pointer (some ⟨g, 0, none⟩) := by simpa using hp
  have hq' : tmps[q]?.getD undef = .pointer (some ⟨g2, 0, none⟩) := by simpa using hq
  have hx' : tmps[u]?.getD undef = x := by simpa using hx
  have hy' : tmps[v]?.getD undef = y := by simpa using hy
  simp [results, h, hp', hq', hx', hy', asAddr, Sem.run_bind, run_loadVar_row w g t ty cs fr d hg hu hd hi, run_loadVar_row w g2 t2 ty2 cs2 fr2 d2 hg2 hu2 hd2 hi2, Result.andThen]
theorem below_row {B : Nat} {a w : World} (h : Below B a w) {g : Nat} (hg : B ≤ g) (cs : Array Value) : Below B a (w.setRow g cs) :=
  h.trans ⟨rfl, rfl, rfl, by simp [World.setRow], fun k hk => by
    show (w.heap.modify g _)[k]? = _
    rw [Array.getElem?_modify, if_neg (by omega)]⟩
/-- The field that an item names. -/
def hNamed (L : List Fld) (x : Itm) : Fld × Bool := if x.index = 0 then (⟨x.name, ⟨#[]⟩, false⟩, true) else atF L x.index
def NamedPost (L : List Fld) (x : Itm) (w : World) (e : Ending) (w' : World) : Prop := e = .returned (.tuple #[.agg #[.string (hNamed L x).1.name, .string (hNamed L x).1.value, .bool (hNamed L x).1.never], .bool (hNamed L x).2]) ∧ Below w.heap.size w w'
abbrev zF : Array Value := #[.string ⟨#[]⟩, .string ⟨#[]⟩, .bool false]
set_option maxRecDepth 100000 in
set_option maxHeartbeats 4000000 in
theorem named_any (mx cp : Int) (oa : Option Addr) (n cap : Nat) (L : List Fld) (hn : L.length = n) (k : Nat) (i : Int) (nm vl : ByteArray) (hi : (Lit.int .i64 i).wf = true) (w : World) (hf : FieldsN w oa L) :
    Calls Try.prog 65 #[.agg #[.int .i64 mx, .slice oa n cap, .int .i64 cp], .agg #[.int .u8 (k : Int), .int .i64 i, .string nm, .string vl]] w (NamedPost L ⟨k, i, nm, vl⟩ w) := by
  have HC := Lib.hid (fun W (hW : Below w.heap.size w W) => dAt_any mx oa n cap L hn i hi W (hf.below hW))
  have b1 := (Below.refl w.heap.size w).alloc (Nat.le_refl _) (.cells #[.int .i64 mx, .slice oa n cap, .int .i64 cp] 45)
  have b2 := b1.alloc b1.size (.cells #[.int .u8 (k : Int), .int .i64 i, .string nm, .string vl] 49)
  have HB := Lib.hid (b2.alloc b2.size (.cells zF 25))
  have HR := Lib.hid (((HRow.new w mx cp (.slice oa n cap)).step ((Below.refl _ _).alloc (Nat.le_refl _) (.cells #[.int .u8 (k : Int), .int .i64 i, .string nm, .string vl] 49))).step ((Below.refl _ _).alloc (Nat.le_refl _) (.cells zF 25)))
  have HX : Hid (IRow (((w.alloc (.cells #[.int .i64 mx, .slice oa n cap, .int .i64 cp] 45)).alloc (.cells #[.int .u8 (k : Int), .int .i64 i, .string nm, .string vl] 49)).alloc (.cells zF 25)) (w.heap.size + 1) k i nm vl) := Lib.hid (by
    have h1 : IRow ((w.alloc (.cells #[.int .i64 mx, .slice oa n cap, .int .i64 cp] 45)).alloc (.cells #[.int .u8 (k : Int), .int .i64 i, .string nm, .string vl] 49)) (w.heap.size + 1) k i nm vl := by
      have := heap_alloc_new (w.alloc (.cells #[.int .i64 mx, .slice oa n cap, .int .i64 cp] 45)) (.cells #[.int .u8 (k : Int), .int .i64 i, .string nm, .string vl] 49)
      simpa [IRow] using this
    exact h1.step ((Below.refl _ _).alloc (Nat.le_refl _) _))
  have HZ : Hid ((((w.alloc (.cells #[.int .i64 mx, .slice oa n cap, .int .i64 cp] 45)).alloc (.cells #[.int .u8 (k : Int), .int .i64 i, .string nm, .string vl] 49)).alloc (.cells zF 25)).heap[w.heap.size + 2]? = some (.cells zF 25 (0, 0))) := Lib.hid (by
    have := heap_alloc_new ((w.alloc (.cells #[.int .i64 mx, .slice oa n cap, .int .i64 cp] 45)).alloc (.cells #[.int .u8 (k : Int), .int .i64 i, .string nm, .string vl] 49)) (.cells zF 25)
    simpa using this)
  unfold NamedPost
  obtain ⟨R, hR⟩ : ∃ R, hNamed L ⟨k, i, nm, vl⟩ = R := ⟨_, rfl⟩
  have HN : Hid (R = if i = 0 then (⟨nm, ⟨#[]⟩, false⟩, true) else atF L i) := Lib.hid hR.symm
  rw [hR]
  clear hR
  obtain ⟨⟨a1, a2, a3⟩, a4⟩ := R
  simp only
  clear b1 b2 hf hn
  go_enter Try.func65, Try.ntmps65
  go_upto_region 1 with fail
  have hz3 : w.heap.size + 2 < (((w.alloc (.cells #[.int .i64 mx, .slice oa n cap, .int .i64 cp] 45)).alloc (.cells #[.int .u8 (k : Int), .int .i64 i, .string nm, .string vl] 49)).alloc (.cells zF 25)).heap.size := by simp
  have HLT := Lib.hid hz3
  clear hz3
  generalize (((w.alloc (.cells #[.int .i64 mx, .slice oa n cap, .int .i64 cp] 45)).alloc (.cells #[.int .u8 (k : Int), .int .i64 i, .string nm, .string vl] 49)).alloc (.cells zF 25)) = w1 at HB HR HX HZ HLT ⊢
  have c0 := HR.out.c0
  have c1 := HR.out.c1
  have x1 := HX.out.c1
  have x2 := HX.out.c2
  by_cases h0 : i = 0
  · have q : (i == 0) = true := by rw [h0]; rfl
    obtain ⟨rfl, rfl, rfl, rfl⟩ : a1 = nm ∧ a2 = ⟨#[]⟩ ∧ a3 = false ∧ a4 = true := by
      have := HN.out.trans (if_pos h0)
      simp only [Prod.mk.injEq, Fld.mk.injEq] at this
      exact ⟨this.1.1, this.1.2.1, this.1.2.2, this.2⟩
    go_wp2_with (first | (refine wpList_store_row rfl _ _ _ rfl (w.heap.size + 2) #[.string a1, .string ⟨#[]⟩, .bool false] rfl rfl _ _ HZ.out (by kernel_rfl) rfl (by kernel_rfl) ?_))
    exact bodyPost_ret (v := .tuple #[.agg #[.string a1, .string ⟨#[]⟩, .bool false], .bool true]) (res_cell2 rfl _ _ (w.heap.size + 2) _ _ (0, 0) _ rfl (setRow_heap _ _ _ _ _ _ HZ.out) Try.underlying25 rfl (by kernel_rfl) _ rfl) rfl ⟨rfl, below_row HB.out (by omega) _⟩
  · have q : (i == 0) = false := beq_eq_false_iff_ne.2 h0
    have HV := Lib.hid (HN.out.trans (if_neg h0))
    unfold AtPost at HC
    rw [← HV.out] at HC
    simp only at HC
    go_wp2_with (first | (go_at_call 85; refine (HC.out _ HB.out).mono ?_; rintro e w2 ⟨rfl, hb⟩; have HB2 := Lib.hid (bs_hd HB.out hb); have HZ2 := Lib.hid ((hb.block _ HLT.out).trans HZ.out); clear hb) | (refine wpList_store_row rfl _ _ _ rfl (w.heap.size + 2) #[.string a1, .string a2, .bool a3] rfl rfl _ _ HZ2.out (by kernel_rfl) rfl (by kernel_rfl) ?_))
    exact bodyPost_ret (v := .tuple #[.agg #[.string a1, .string a2, .bool a3], .bool a4]) (res_cell2 rfl _ _ (w.heap.size + 2) _ _ (0, 0) _ rfl (setRow_heap _ _ _ _ _ _ HZ2.out) Try.underlying25 rfl (by kernel_rfl) _ rfl) rfl ⟨rfl, below_row HB2.out (by omega) _⟩
end Go.Proofs.Yteceinojmdgmeaa

