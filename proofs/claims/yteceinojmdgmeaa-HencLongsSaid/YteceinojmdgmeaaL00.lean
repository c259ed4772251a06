/- HnA · HnB: joined by a program, for a claim has at most 60 files. -/
import Derived.Test.YteceinojmdgmeaaC41
import Derived.Test.YteceinojmdgmeaaC13
import Derived.Test.YteceinojmdgmeaaC25
import Derived.Test.YteceinojmdgmeaaC01
import Derived.Test.YteceinojmdgmeaaC43
import Derived.Deep.DeepCutAuto
/- henc: New, Check, Same, long: the walks. -/
namespace Go.Proofs.Yteceinojmdgmeaa
open Go.RowKit
set_option linter.unusedVariables false
set_option linter.unusedSimpArgs false

/-- A state of henc, in a row of its own. -/
def ERow (W : World) (q : Nat) (mx : Int) (v : Value) (le la : Int) : Prop := W.heap[q]? = some (.cells #[.int .i64 mx, v, .int .i64 le, .int .i64 la] 30 (0, 0))
theorem ERow.c0 {W : World} {q : Nat} {m a b : Int} {v : Value} (h : ERow W q m v a b) : W.cell? ⟨q, 0, none⟩ = some (.int .i64 m) := cell_of_row _ _ _ _ _ _ h
theorem ERow.c1 {W : World} {q : Nat} {m a b : Int} {v : Value} (h : ERow W q m v a b) : W.cell? ⟨q, 1, none⟩ = some v := cell_of_row _ _ _ _ _ _ h
theorem ERow.c2 {W : World} {q : Nat} {m a b : Int} {v : Value} (h : ERow W q m v a b) : W.cell? ⟨q, 2, none⟩ = some (.int .i64 a) := cell_of_row _ _ _ _ _ _ h
theorem ERow.c3 {W : World} {q : Nat} {m a b : Int} {v : Value} (h : ERow W q m v a b) : W.cell? ⟨q, 3, none⟩ = some (.int .i64 b) := cell_of_row _ _ _ _ _ _ h
theorem ERow.lt {W : World} {q : Nat} {m a b : Int} {v : Value} (h : ERow W q m v a b) : q < W.heap.size := World.block_lt_of_cell? W ⟨q, 0, none⟩ h.c0
theorem ERow.step {W W' : World} {q : Nat} {m a b : Int} {v : Value} (h : ERow W q m v a b) (hb : Below W.heap.size W W') : ERow W' q m v a b := (hb.block q h.lt).trans h
theorem ERow.new (W : World) (m a b : Int) (v : Value) : ERow (W.alloc (.cells #[.int .i64 m, v, .int .i64 a, .int .i64 b] 30)) W.heap.size m v a b := heap_alloc_new W _
/-- What Check tells. -/
def echk (mx le la : Int) (L : List Fld) : Int := if chkN mx L ≠ 0 then chkN mx L else if le < 0 ∨ min la mx < le ∨ 4096 < la then 8 else 0
set_option maxRecDepth 100000 in
set_option maxHeartbeats 2000000 in
theorem echeck_any (mx le la : Int) (oa : Option Addr) (n cap : Nat) (L : List Fld) (hn : L.length = n) (hl : ∀ f ∈ L, lightF f = true) (hn30 : n ≤ 1000) (w : World) (hf : FieldsN w oa L) :
    Calls Try.prog 35 #[.agg #[.int .i64 mx, .slice oa n cap, .int .i64 le, .int .i64 la]] w fun e w' => e = .returned (.int .i64 (echk mx le la L)) ∧ Below w.heap.size w w' := by
  have HB := Lib.hid (below_new (W := w) (.cells #[.int .i64 mx, .slice oa n cap, .int .i64 le, .int .i64 la] 30))
  have HR := Lib.hid (ERow.new w mx le la (.slice oa n cap))
  have HC := Lib.hid (fun W (hW : Below w.heap.size w W) => check_any mx oa n cap L hn hl hn30 W (hf.below hW))
  have HV : Hid (echk mx le la L = if chkN mx L ≠ 0 then chkN mx L else if le < 0 ∨ min la mx < le ∨ 4096 < la then 8 else 0) := Lib.hid rfl
  generalize chkN mx L = k at HC HV
  clear hf hl hn
  go_enter Try.func35, Try.ntmps35
  go_upto_region 1 with fail
  generalize w.alloc (.cells #[.int .i64 mx, .slice oa n cap, .int .i64 le, .int .i64 la] 30) = w1 at HB HR ⊢
  have c0 := HR.out.c0
  have c1 := HR.out.c1
  go_upto_region 2 with (first | (go_at_call 45; refine (HC.out _ HB.out).mono ?_; rintro e w2 ⟨rfl, hb⟩; have HB2 := Lib.hid (bs_hd HB.out hb); have HR2 := Lib.hid (HR.out.step hb); clear hb))
  clear c0 c1
  have c0 := HR2.out.c0
  have c2 := HR2.out.c2
  have c3 := HR2.out.c3
  by_cases hk : k = 0
  · subst hk
    obtain ⟨b1, q1⟩ : ∃ b, decide (le < 0) = b := ⟨_, rfl⟩
    obtain ⟨b2, q2⟩ : ∃ b, decide (min la mx < le) = b := ⟨_, rfl⟩
    obtain ⟨b3, q3⟩ : ∃ b, decide ((4096 : Int) < la) = b := ⟨_, rfl⟩
    have HV2 : Hid (echk mx le la L = if (b1 || (b2 || b3)) = true then 8 else 0) := Lib.hid (by rw [HV.out, if_neg (by simp), ← q1, ← q2, ← q3]; simp)
    cases b1 <;> cases b2 <;> cases b3
    all_goals
      go_wp2_with fail
      go_ret
      exact ⟨rt_i (by rw [HV2.out]; rfl), HB2.out⟩
  · have q1 : (k == 0) = false := beq_eq_false_iff_ne.2 hk
    have q2 : (k != 0) = true := by rw [bne, q1]; rfl
    have HV2 := Lib.hid (HV.out.trans (if_pos hk))
    go_wp2_with fail
    go_ret
    exact ⟨rt_i HV2.out.symm, HB2.out⟩
set_option maxRecDepth 100000 in
set_option maxHeartbeats 2000000 in
theorem esame_any (m m2 le le2 la la2 : Int) (oa ob : Option Addr) (n nb cap cap' : Nat) (L R : List Fld) (hn : L.length = n) (hnb : R.length = nb) (h100 : n ≤ 1000) (hb100 : nb ≤ 1000) (w : World) (hf : FieldsN w oa L) (hg : FieldsN w ob R) :
    Calls Try.prog 10 #[.agg #[.int .i64 m, .slice oa n cap, .int .i64 le, .int .i64 la], .agg #[.int .i64 m2, .slice ob nb cap', .int .i64 le2, .int .i64 la2]] w fun e w' => e = .returned (.bool (decide (le = le2) && (decide (la = la2) && (decide (m = m2) && sameL L R)))) ∧ Below w.heap.size w w' := by
  have HC := Lib.hid (fun W (hW : Below w.heap.size w W) => same_any m m2 oa ob n nb cap cap' L R hn hnb h100 hb100 W (hf.below hW) (hg.below hW))
  generalize (decide (m = m2) && sameL L R) = r at HC ⊢
  have HB := Lib.hid (bs_hd (below_new (W := w) (.cells #[.int .i64 m, .slice oa n cap, .int .i64 le, .int .i64 la] 30)) (below_new (.cells #[.int .i64 m2, .slice ob nb cap', .int .i64 le2, .int .i64 la2] 30)))
  have HR := Lib.hid ((ERow.new w m le la (.slice oa n cap)).step (below_new (.cells #[.int .i64 m2, .slice ob nb cap', .int .i64 le2, .int .i64 la2] 30)))
  have HS : Hid (ERow ((w.alloc (.cells #[.int .i64 m, .slice oa n cap, .int .i64 le, .int .i64 la] 30)).alloc (.cells #[.int .i64 m2, .slice ob nb cap', .int .i64 le2, .int .i64 la2] 30)) (w.heap.size + 1) m2 (.slice ob nb cap') le2 la2) := Lib.hid (two1 _ _ _)
  have e1 : (le == le2) = decide (le = le2) := by rw [Bool.eq_iff_iff]; simp
  have e2 : (la == la2) = decide (la = la2) := by rw [Bool.eq_iff_iff]; simp
  generalize decide (le = le2) = b at e1 ⊢
  generalize decide (la = la2) = b2 at e2 ⊢
  clear hf hg hn hnb
  go_enter Try.func10, Try.ntmps10
  go_upto_region 1 with fail
  generalize ((w.alloc (.cells #[.int .i64 m, .slice oa n cap, .int .i64 le, .int .i64 la] 30)).alloc (.cells #[.int .i64 m2, .slice ob nb cap', .int .i64 le2, .int .i64 la2] 30)) = w1 at HB HR HS ⊢
  have x0 := HR.out.c0
  have x1 := HR.out.c1
  have x2 := HR.out.c2
  have x3 := HR.out.c3
  have y0 := HS.out.c0
  have y1 := HS.out.c1
  have y2 := HS.out.c2
  have y3 := HS.out.c3
  cases b
  · go_wp2_with fail
    go_ret
    exact ⟨rfl, HB.out⟩
  · cases b2
    · go_wp2_with fail
      go_ret
      exact ⟨rfl, HB.out⟩
    · go_wp2_with (first | (go_at_call 37; refine (HC.out _ HB.out).mono ?_; rintro e w2 ⟨rfl, hb⟩; replace HB := Lib.hid (bs_hd HB.out hb); clear hb))
      go_ret
      exact ⟨rt_b (by simp), HB.out⟩
/-- Whether a field is too long. -/
def longF (f : Fld) : Bool := decide (4096 < f.name.size) || decide (4096 < f.value.size)
set_option maxRecDepth 100000 in
set_option maxHeartbeats 2000000 in
theorem elong_any (f : Fld) (w : World) : Calls Try.prog 59 #[.agg #[.string f.name, .string f.value, .bool f.never]] w fun e w' => e = .returned (.bool (longF f)) ∧ Below w.heap.size w w' := by
  have HB := Lib.hid (below_new (W := w) (.cells #[.string f.name, .string f.value, .bool f.never] 25))
  have HR := Lib.hid (show FRow (w.alloc (.cells #[.string f.name, .string f.value, .bool f.never] 25)) w.heap.size f from heap_alloc_new w _)
  obtain ⟨fn, fv, fb⟩ := f
  unfold longF
  dsimp only
  obtain ⟨b1, e1⟩ : ∃ b, decide (4096 < fn.size) = b := ⟨_, rfl⟩
  obtain ⟨b2, e2⟩ : ∃ b, decide (4096 < fv.size) = b := ⟨_, rfl⟩
  have q1 : decide ((4096 : Int) < (fn.size : Int)) = b1 := by rw [← e1]; exact decide_eq_decide.2 (by omega)
  have q2 : decide ((4096 : Int) < (fv.size : Int)) = b2 := by rw [← e2]; exact decide_eq_decide.2 (by omega)
  rw [e1, e2]
  go_enter Try.func59, Try.ntmps59
  go_upto_region 1 with fail
  generalize w.alloc (.cells #[.string fn, .string fv, .bool fb] 25) = w1 at HB HR ⊢
  have x0 := HR.out.c0
  have x1 := HR.out.c1
  dsimp only at x0 x1
  cases b1 <;> cases b2
  all_goals
    go_wp2_with fail
    go_ret
    exact ⟨rfl, HB.out⟩
set_option maxRecDepth 100000 in
set_option maxHeartbeats 2000000 in
theorem enew_any (w : World) : Calls Try.prog 8 #[] w fun e w' => e = .returned (.agg #[.int .i64 4096, .slice none 0 0, .int .i64 4096, .int .i64 4096]) ∧ Below w.heap.size w w' := by
  have HZ := Lib.hid (ERow.new w 0 0 0 (.slice none 0 0))
  have HB := Lib.hid (below_new (W := w) (.cells #[.int .i64 0, .slice none 0 0, .int .i64 0, .int .i64 0] 30))
  go_enter Try.func8, Try.ntmps8
  go_upto_region 1 with fail
  generalize w.alloc (.cells #[.int .i64 0, .slice none 0 0, .int .i64 0, .int .i64 0] 30) = w1 at HB HZ ⊢
  go_wp2_with (first | (refine wpList_store_row rfl _ _ _ rfl w.heap.size #[.int .i64 4096, .slice none 0 0, .int .i64 4096, .int .i64 4096] rfl rfl _ _ HZ.out (by kernel_rfl) rfl (by kernel_rfl) ?_))
  try rw [Exit.noGoto_ret]
  exact bodyPost_ret (v := .agg #[.int .i64 4096, .slice none 0 0, .int .i64 4096, .int .i64 4096]) (results_cell_row rfl _ _ w.heap.size _ _ (0, 0) _ rfl (setRow_heap _ _ _ _ _ _ HZ.out) Try.underlying30 rfl (by kernel_rfl)) rfl
    ⟨rfl, below_row HB.out (Nat.le_refl _) _⟩
end Go.Proofs.Yteceinojmdgmeaa


/- henc.item: the walk. -/
namespace Go.Proofs.Yteceinojmdgmeaa
open Go.RowKit
set_option linter.unusedVariables false
set_option linter.unusedSimpArgs false

/-- A field's item, by what Find tells. -/
def eItem (p : Nat) (x : Bool) (mx : Int) (f : Fld) : Itm :=
  if (x && !f.never) = true then ⟨0, p, ⟨#[]⟩, ⟨#[]⟩⟩
  else ⟨if f.never = true then 3 else if (f.sz : Int) ≤ mx / 2 then 1 else 2, p, if p = 0 then f.name else ⟨#[]⟩, f.value⟩
def EItemPost (T : List Fld) (mx : Int) (f : Fld) (w : World) (e : Ending) (w' : World) : Prop :=
  ∃ p x, DFound T f.name f.value p x ∧ e = .returned (.agg #[.int .u8 (((eItem p x mx f).kind : Nat) : Int), .int .i64 (eItem p x mx f).index, .string (eItem p x mx f).name, .string (eItem p x mx f).value]) ∧ Below w.heap.size w w'
/-- What stands at the beginning. -/
structure Ei (w : World) (mx : Int) (v : Value) (f : Fld) (W : World) : Prop where
  tb : W.heap[w.heap.size]? = some (.cells #[.int .i64 mx, v] 28 (0, 0))
  fr : FRow W (w.heap.size + 1) f
  rs : W.heap[w.heap.size + 2]? = some (.cells #[.int .u8 0, .int .i64 0, .string ⟨#[]⟩, .string ⟨#[]⟩] 49 (0, 0))
  below : Below w.heap.size w W
  lt : w.heap.size + 2 < W.heap.size
theorem Ei.step {w W W' : World} {mx : Int} {v : Value} {f : Fld} (h : Ei w mx v f W) (hb : Below W.heap.size W W') : Ei w mx v f W' :=
  ⟨(hb.block _ (by have := h.lt; omega)).trans h.tb, h.fr.step hb, (hb.block _ h.lt).trans h.rs, bs_hd h.below hb, Nat.lt_of_lt_of_le h.lt hb.size⟩
theorem Ei.setCell {w W : World} {mx : Int} {v : Value} {f : Fld} (h : Ei w mx v f W) {g i : Nat} (hg : w.heap.size + 2 < g) (u : Value) : Ei w mx v f (W.setCell ⟨g, i, none⟩ u) := by
  have e : ∀ k, k ≠ g → (W.setCell ⟨g, i, none⟩ u).heap[k]? = W.heap[k]? := fun k hk => heap_setCell_other _ ⟨g, i, none⟩ k _ hk
  exact ⟨(e _ (by omega)).trans h.tb, (e _ (by omega)).trans h.fr, (e _ (by omega)).trans h.rs, h.below.setCell (p := ⟨g, i, none⟩) (by show w.heap.size ≤ g; omega) _, by rw [World.size_setCell]; exact h.lt⟩
theorem Ei.new (w : World) (mx : Int) (v : Value) (f : Fld) : Ei w mx v f (((w.alloc (.cells #[.int .i64 mx, v] 28)).alloc (.cells #[.string f.name, .string f.value, .bool f.never] 25)).alloc (.cells #[.int .u8 0, .int .i64 0, .string ⟨#[]⟩, .string ⟨#[]⟩] 49)) :=
  ⟨three0 _ _ _ _, three1 _ _ _ _, three2 _ _ _ _, bs_hd (bs_hd (below_new _) (below_new _)) (below_new _), by simp⟩
theorem IRow.put0 {W : World} {g k k2 : Nat} {i : Int} {nm vl : ByteArray} (h : IRow W g k i nm vl) : IRow (W.setCell ⟨g, 0, none⟩ (.int .u8 (k2 : Int))) g k2 i nm vl := by
  unfold IRow at *
  rw [setCell_eq_setRow _ _ _ _ _ _ _ h]
  exact setRow_heap _ _ _ _ _ _ h
theorem IRow.put2 {W : World} {g k : Nat} {i : Int} {nm nm2 vl : ByteArray} (h : IRow W g k i nm vl) : IRow (W.setCell ⟨g, 2, none⟩ (.string nm2)) g k i nm2 vl := by
  unfold IRow at *
  rw [setCell_eq_setRow _ _ _ _ _ _ _ h]
  exact setRow_heap _ _ _ _ _ _ h
set_option maxRecDepth 100000 in
set_option maxHeartbeats 4000000 in
theorem eitem_any (mx : Int) (h0 : 0 ≤ mx) (h4 : mx ≤ 4096) (oa : Option Addr) (n cap : Nat) (T : List Fld) (hn : T.length = n) (hn30 : n ≤ 1000) (f : Fld) (hlf : lightF f = true) (w : World) (hf : FieldsN w oa T) :
    Calls Try.prog 62 #[.agg #[.int .i64 mx, .slice oa n cap], .agg #[.string f.name, .string f.value, .bool f.never]] w (EItemPost T mx f w) := by
  have HH := Lib.hid (Ei.new w mx (.slice oa n cap) f)
  have HFD := Lib.hid (fun W (hW : Below w.heap.size w W) => dFind_any mx oa n cap T hn hn30 f.name f.value W (hf.below hW))
  have hl2 : f.name.size ≤ 40000 ∧ f.value.size ≤ 40000 := by simpa [lightF] using hlf
  have HSZ := Lib.hid (fun W => field_size f.name f.value f.never (by omega) (by omega) W)
  have hsz : (f.name.size : Int) + (f.value.size : Int) + 32 = (f.sz : Int) := by
    have : f.sz = f.name.size + f.value.size + 32 := rfl
    omega
  rw [hsz] at HSZ
  unfold DFindPost at HFD
  unfold EItemPost
  have hq : Int.tdiv mx 2 = mx / 2 := Int.tdiv_eq_ediv_of_nonneg h0
  have hw2 : IntKind.i64.wrap (mx / 2) = mx / 2 := IntWalk.i64_in _ (by omega)
  have HEI := Lib.hid (fun p x => show eItem p x mx f = if (x && !f.never) = true then ⟨0, p, ⟨#[]⟩, ⟨#[]⟩⟩ else ⟨if f.never = true then 3 else if (f.sz : Int) ≤ mx / 2 then 1 else 2, p, if p = 0 then f.name else ⟨#[]⟩, f.value⟩ from rfl)
  clear hf hn hn30 hlf hl2 hsz h0 h4
  obtain ⟨fn, fv, fb⟩ := f
  dsimp only at HH HFD HSZ HEI ⊢
  generalize ((Fld.sz ⟨fn, fv, fb⟩ : Nat) : Int) = sz at HSZ HEI
  go_enter Try.func62, Try.ntmps62
  go_upto_region 1 with fail
  generalize (((w.alloc (.cells #[.int .i64 mx, .slice oa n cap] 28)).alloc (.cells #[.string fn, .string fv, .bool fb] 25)).alloc (.cells #[.int .u8 0, .int .i64 0, .string ⟨#[]⟩, .string ⟨#[]⟩] 49)) = w1 at HH ⊢
  have t0 := cell_of_row _ _ 0 _ _ _ HH.out.tb
  have t1 := cell_of_row _ _ 1 _ _ _ HH.out.tb
  have x0 := HH.out.fr.c0
  have x1 := HH.out.fr.c1
  go_upto_region 2 with (first | (go_at_call 29; refine (HFD.out _ HH.out.below).mono ?_; rintro e w2 ⟨p, x, hdf, rfl, hb⟩; have HDF := Lib.hid hdf; replace HH := Lib.hid (HH.out.step hb); clear hdf hb))
  clear t0 t1 x0 x1
  replace HEI := Lib.hid (HEI.out p x)
  generalize hR : eItem p x mx ⟨fn, fv, fb⟩ = R at HEI
  have HRE := Lib.hid hR
  clear hR
  have x1 := HH.out.fr.c1
  have x2 := HH.out.fr.c2
  have x0 := HH.out.fr.c0
  dsimp only at x0 x1 x2
  by_cases hx : (x && !fb) = true
  · rw [if_pos hx] at HEI
    have hx2 : x = true ∧ fb = false := by simpa using hx
    obtain ⟨rfl, rfl⟩ := hx2
    clear hx
    go_wp2_with (first | (refine wpList_store_row rfl _ _ _ rfl (w.heap.size + 2) #[.int .u8 0, .int .i64 (p : Int), .string ⟨#[]⟩, .string ⟨#[]⟩] rfl rfl _ _ HH.out.rs (by kernel_rfl) rfl (by kernel_rfl) ?_))
    try rw [Exit.noGoto_ret]
    exact bodyPost_ret (v := .agg #[.int .u8 0, .int .i64 (p : Int), .string ⟨#[]⟩, .string ⟨#[]⟩]) (results_cell_row rfl _ _ (w.heap.size + 2) _ _ (0, 0) _ rfl (setRow_heap _ _ _ _ _ _ HH.out.rs) Try.underlying49 rfl (by kernel_rfl)) rfl
      ⟨p, true, HDF.out, by rw [show eItem p true mx ⟨fn, fv, false⟩ = ⟨0, p, ⟨#[]⟩, ⟨#[]⟩⟩ from rfl]; rfl, below_row HH.out.below (by omega) _⟩
  · rw [if_neg hx] at HEI
    have hxf : (x && !fb) = false := by simpa using hx
    clear hx
    go_cut [22] (fun v22 wx => v22 = .bool false ∧ w2 = wx)
    case first =>
      cases x
      · go_wp2_with fail
        go_meet
        exact ⟨rfl, rfl⟩
      · cases fb
        · cases hxf
        · go_wp2_with fail
          go_meet
          exact ⟨rfl, rfl⟩
    case rest =>
      obtain ⟨rfl, rfl⟩ := hcut
      clear hxf HFD
      go_upto_region 5 with fail
      have HX := Lib.hid (show IRow (w2.alloc (.cells #[.int .u8 2, .int .i64 (p : Int), .string ⟨#[]⟩, .string fv] 49)) w2.heap.size 2 (p : Int) ⟨#[]⟩ fv from heap_alloc_new w2 _)
      have HG7 := Lib.hid HH.out.lt
      replace HH := Lib.hid (HH.out.step (below_new (.cells #[.int .u8 2, .int .i64 (p : Int), .string ⟨#[]⟩, .string fv] 49)))
      generalize w2.alloc (.cells #[.int .u8 2, .int .i64 (p : Int), .string ⟨#[]⟩, .string fv] 49) = w3 at HX HH ⊢
      generalize w2.heap.size = g7 at HX HG7 ⊢
      clear x0 x1 x2
      have x0 := HH.out.fr.c0
      dsimp only at x0
      have y2 := HX.out.c2
      have z2 := frozen_of_row _ _ 2 _ _ HX.out
      go_upto_if 30 with fail
      go_cut [] (fun wx => IRow wx g7 2 (p : Int) (if p = 0 then fn else ⟨#[]⟩) fv ∧ Ei w mx (.slice oa n cap) ⟨fn, fv, fb⟩ wx)
      case first =>
        by_cases hp : p = 0
        · have q1 : ((p : Int) == 0) = true := by rw [hp]; rfl
          have q2 : (p == 0) = true := by rw [hp]; rfl
          have HIF := Lib.hid (show (if p = 0 then fn else (⟨#[]⟩ : ByteArray)) = fn from if_pos hp)
          have HP := Lib.hid hp
          clear hp
          go_wp2_with fail
          go_meet
          exact ⟨by rw [HIF.out]; exact HX.out.put2, HH.out.setCell HG7.out _⟩
        · have q1 : ((p : Int) == 0) = false := beq_eq_false_iff_ne.2 (by omega)
          have q2 : (p == 0) = false := beq_eq_false_iff_ne.2 hp
          have HIF := Lib.hid (show (if p = 0 then fn else (⟨#[]⟩ : ByteArray)) = ⟨#[]⟩ from if_neg hp)
          go_wp2_with fail
          go_meet
          exact ⟨by rw [HIF.out]; exact HX.out, HH.out⟩
      case rest =>
        obtain ⟨hxr, hhr⟩ := hcut
        clear x0 y2 z2 HX HH
        generalize (if p = 0 then fn else (⟨#[]⟩ : ByteArray)) = nm at HEI hxr
        have HXX := Lib.hid (And.intro hxr hhr)
        clear hxr hhr
        go_upto_region 7 with fail
        refine class_region (C := fun W => IRow W g7 2 (p : Int) nm fv ∧ Ei w mx (.slice oa n cap) ⟨fn, fv, fb⟩ W) (by kernel_rfl) (by kernel_rfl) ⟨HXX.out.1, HXX.out.2.step ((Below.refl _ _).drew)⟩ ?_
        clear HXX
        repeat
          (with_reducible refine q_plainE rfl rfl ?_)
          apply Exists.intro
          with_reducible refine ⟨?_, ?_⟩
          · intro W hW
            unfold QAt
            first
              | (go_simp; done)
              | (go_simp; with_reducible rfl)
              | (have a0 := hW.2.fr.c0
                 have a1 := hW.2.fr.c1
                 have a2 := hW.2.fr.c2
                 have b0 := cell_of_row _ _ 0 _ _ _ hW.2.tb
                 dsimp only at a0 a1 a2
                 first | (go_simp; done) | go_simp
                 first
                   | done
                   | (with_reducible rfl)
                   | (go_at_call 47; refine (HSZ.out _).mono ?_; rintro e w11 ⟨rfl, hb⟩; exact ⟨rfl, hW.1.step hb, hW.2.step hb⟩))
          apply Exists.intro
          with_reducible refine ⟨?_, ?_⟩
          · simp only [Act.put, List.setIfInBounds_toArray, List.set_cons_zero, List.set_cons_succ]
            exact isAct_rfl _
        with_reducible refine qrest_nil ?_
        intro w4 hw4
        have HX := Lib.hid hw4.1
        have HH := Lib.hid hw4.2
        clear hw4
        have y0 := HX.out.c0
        have z0 := frozen_of_row _ _ 0 _ _ HX.out
        go_upto_if 39 with fail
        go_cut [] (fun wx => IRow wx g7 (if sz ≤ mx / 2 then 1 else 2) (p : Int) nm fv ∧ Ei w mx (.slice oa n cap) ⟨fn, fv, fb⟩ wx)
        case first =>
          by_cases hs : sz ≤ mx / 2
          · have q1 : decide (sz ≤ mx / 2) = true := decide_eq_true hs
            have HIF := Lib.hid (show (if sz ≤ mx / 2 then (1 : Nat) else 2) = 1 from if_pos hs)
            go_wp2_with fail
            go_meet
            exact ⟨by rw [HIF.out]; exact HX.out.put0 (k2 := 1), HH.out.setCell HG7.out _⟩
          · have q1 : decide (sz ≤ mx / 2) = false := decide_eq_false hs
            have HIF := Lib.hid (show (if sz ≤ mx / 2 then (1 : Nat) else 2) = 2 from if_neg hs)
            go_wp2_with fail
            go_meet
            exact ⟨by rw [HIF.out]; exact HX.out, HH.out⟩
        case rest =>
          obtain ⟨hxr, hhr⟩ := hcut
          clear y0 z0 HX HH
          generalize (if sz ≤ mx / 2 then (1 : Nat) else 2) = kk at HEI hxr
          have HX := Lib.hid hxr
          have HH := Lib.hid hhr
          clear hxr hhr
          have x2 := HH.out.fr.c2
          dsimp only at x2
          have y0 := HX.out.c0
          have z0 := frozen_of_row _ _ 0 _ _ HX.out
          go_upto_if 42 with fail
          go_cut [] (fun wx => IRow wx g7 (if fb = true then 3 else kk) (p : Int) nm fv ∧ Ei w mx (.slice oa n cap) ⟨fn, fv, fb⟩ wx)
          case first =>
            cases fb
            · go_wp2_with fail
              go_meet
              exact ⟨HX.out, HH.out⟩
            · go_wp2_with fail
              go_meet
              exact ⟨HX.out.put0 (k2 := 3), HH.out.setCell HG7.out _⟩
          case rest =>
            obtain ⟨hxr, hhr⟩ := hcut
            clear x2 y0 z0 HX HH
            generalize (if fb = true then (3 : Nat) else kk) = k3 at HEI hxr
            have HX := Lib.hid hxr
            have HH := Lib.hid hhr
            clear hxr hhr
            have y0 := HX.out.c0
            have y1 := HX.out.c1
            have y2 := HX.out.c2
            have y3 := HX.out.c3
            have HRS := Lib.hid (show wc.heap[w.heap.size + 1 + 1]? = some (.cells #[.int .u8 0, .int .i64 0, .string ⟨#[]⟩, .string ⟨#[]⟩] 49 (0, 0)) from HH.out.rs)
            go_wp2_with (first | (refine wpList_store_row rfl _ _ _ rfl (w.heap.size + 1 + 1) #[.int .u8 (k3 : Int), .int .i64 (p : Int), .string nm, .string fv] rfl rfl _ _ HRS.out (by kernel_rfl) rfl (by kernel_rfl) ?_))
            try rw [Exit.noGoto_ret]
            exact bodyPost_ret (v := .agg #[.int .u8 (k3 : Int), .int .i64 (p : Int), .string nm, .string fv]) (results_cell_row rfl _ _ (w.heap.size + 1 + 1) _ _ (0, 0) _ rfl (setRow_heap _ _ _ _ _ _ HRS.out) Try.underlying49 rfl (by kernel_rfl)) rfl
              ⟨p, x, HDF.out, by rw [HRE.out, HEI.out], below_row HH.out.below (by omega) _⟩
end Go.Proofs.Yteceinojmdgmeaa

