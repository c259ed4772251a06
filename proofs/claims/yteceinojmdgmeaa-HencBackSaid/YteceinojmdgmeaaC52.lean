/- HdN · HnP: joined by a program, for a claim has at most 60 files. -/
import Derived.Test.YteceinojmdgmeaaC37
import Derived.Test.YteceinojmdgmeaaC23
import Derived.Test.YteceinojmdgmeaaC49
import Derived.Test.YteceinojmdgmeaaC51
import Derived.Test.YteceinojmdgmeaaC46
/- New, of both. -/
namespace Go.Proofs.Yteceinojmdgmeaa
open Go.RowKit
set_option linter.unusedVariables false
set_option linter.unusedSimpArgs false

/-- A new state: how great it may be, the error. -/
def newM (m : Int) : Int := if m < 0 ∨ 4096 < m then 0 else m
def newE (m : Int) : Int := if m < 0 ∨ 4096 < m then 8 else 0
theorem hchk_new (m : Int) : hchk m m [] = newE m := by
  rw [hchk_eq]
  unfold newE
  by_cases h : m < 0 ∨ 4096 < m
  · have e : chkN m [] = 8 := by unfold chkN; rw [if_pos h]
    rw [e, if_pos h]
    rfl
  · have e : chkN m [] = 0 := by
      unfold chkN
      rw [if_neg h]
      simp only [List.any_nil, Bool.false_eq_true, if_false]
      exact if_neg (by simp [sumF]; omega)
    rw [e, if_neg h, if_neg (by simp), if_neg (by omega)]
def NewPost (m : Int) (w : World) (e : Ending) (w' : World) : Prop := e = .returned (.tuple #[.agg #[.int .i64 (newM m), .slice none 0 0, .int .i64 (newM m)], .int .i64 (newE m)]) ∧ Below w.heap.size w w'
set_option maxRecDepth 100000 in
set_option maxHeartbeats 2000000 in
theorem hnew_any (m : Int) (w : World) : Calls Try.prog 17 #[.int .i64 m] w (NewPost m w) := by
  have HZ := Lib.hid (SRow.new 45 w 0 0 (.slice none 0 0))
  have HB := Lib.hid (below_new (W := w) (.cells #[.int .i64 0, .slice none 0 0, .int .i64 0] 45))
  unfold NewPost
  by_cases h : m < 0 ∨ 4096 < m
  · have e1 : newM m = 0 := if_pos h
    have e2 : newE m = 8 := if_pos h
    rw [e1, e2]
    have HC := Lib.hid (fun W => new_no m h W)
    clear e1 e2 h
    go_enter Try.func17, Try.ntmps17
    go_upto_region 1 with fail
    generalize w.alloc (.cells #[.int .i64 0, .slice none 0 0, .int .i64 0] 45) = w1 at HB HZ ⊢
    go_upto_region 2 with (first | (go_at_call 44; refine (HC.out _).mono ?_; rintro e w2 ⟨rfl, hb⟩; replace HB := Lib.hid (bs_hd HB.out hb); replace HZ := Lib.hid (HZ.out.step hb); clear hb))
    replace HZ := Lib.hid (HZ.out.step (below_new (.cells #[.int .i64 0, .slice none 0 0] 28)))
    replace HB := Lib.hid (bs_hd HB.out (below_new (.cells #[.int .i64 0, .slice none 0 0] 28)))
    generalize w2.alloc (.cells #[.int .i64 0, .slice none 0 0] 28) = w3 at HZ HB ⊢
    go_wp2_with (first | (refine wpList_store_row rfl _ _ _ rfl w.heap.size #[.int .i64 0, .slice none 0 0, .int .i64 0] rfl rfl _ _ HZ.out (by kernel_rfl) rfl (by kernel_rfl) ?_))
    exact bodyPost_ret (v := .tuple #[.agg #[.int .i64 0, .slice none 0 0, .int .i64 0], .int .i64 8]) (res_cell2 rfl _ _ w.heap.size _ _ (0, 0) _ rfl (setRow_heap _ _ _ _ _ _ HZ.out) Try.underlying45 rfl (by kernel_rfl) _ rfl) rfl ⟨rfl, below_row HB.out (Nat.le_refl _) _⟩
  · have e1 : newM m = m := if_neg h
    have e2 : newE m = 0 := if_neg h
    rw [e1, e2]
    have HC := Lib.hid (fun W => new_yes m (by omega) W)
    clear e1 e2 h
    go_enter Try.func17, Try.ntmps17
    go_upto_region 1 with fail
    generalize w.alloc (.cells #[.int .i64 0, .slice none 0 0, .int .i64 0] 45) = w1 at HB HZ ⊢
    go_upto_region 2 with (first | (go_at_call 44; refine (HC.out _).mono ?_; rintro e w2 ⟨rfl, hb⟩; replace HB := Lib.hid (bs_hd HB.out hb); replace HZ := Lib.hid (HZ.out.step hb); clear hb))
    have HT := Lib.hid (TRow.new w2 m (.slice none 0 0))
    replace HZ := Lib.hid (HZ.out.step (below_new (.cells #[.int .i64 m, .slice none 0 0] 28)))
    replace HB := Lib.hid (bs_hd HB.out (below_new (.cells #[.int .i64 m, .slice none 0 0] 28)))
    generalize w2.alloc (.cells #[.int .i64 m, .slice none 0 0] 28) = w3 at HZ HB HT ⊢
    have x0 := HT.out.c0
    have x1 := HT.out.c1
    go_wp2_with (first | (refine wpList_store_row rfl _ _ _ rfl w.heap.size #[.int .i64 m, .slice none 0 0, .int .i64 m] rfl rfl _ _ HZ.out (by kernel_rfl) rfl (by kernel_rfl) ?_))
    exact bodyPost_ret (v := .tuple #[.agg #[.int .i64 m, .slice none 0 0, .int .i64 m], .int .i64 0]) (res_cell2 rfl _ _ w.heap.size _ _ (0, 0) _ rfl (setRow_heap _ _ _ _ _ _ HZ.out) Try.underlying45 rfl (by kernel_rfl) _ rfl) rfl ⟨rfl, below_row HB.out (Nat.le_refl _) _⟩
set_option maxRecDepth 100000 in
set_option maxHeartbeats 2000000 in
theorem dnew_any (m : Int) (w : World) : Calls Try.prog 18 #[.int .i64 m] w (NewPost m w) := by
  have HZ := Lib.hid (SRow.new 40 w 0 0 (.slice none 0 0))
  have HB := Lib.hid (below_new (W := w) (.cells #[.int .i64 0, .slice none 0 0, .int .i64 0] 40))
  have HC := Lib.hid (fun W => dcheck6_any m m none 0 0 [] rfl (fun f h => by cases h) (by omega) W (FieldsN.nil _ _))
  rw [hchk_new] at HC
  unfold NewPost
  by_cases h : m < 0 ∨ 4096 < m
  · have e1 : newM m = 0 := if_pos h
    have e2 : newE m = 8 := if_pos h
    rw [e2] at HC
    rw [e1, e2]
    clear e1 e2 h
    go_enter Try.func18, Try.ntmps18
    go_upto_region 2 with (first | (refine wpList_store_row rfl _ _ _ rfl (w.heap.size + 1) #[.int .i64 m, .slice none 0 0, .int .i64 m] rfl rfl _ _ (two1 _ _ _) (by kernel_rfl) rfl (by kernel_rfl) ?_))
    have HQ := Lib.hid (show SRow 40 _ (w.heap.size + 1) m (.slice none 0 0) m from setRow_heap _ _ _ #[.int .i64 m, .slice none 0 0, .int .i64 m] _ _ (two1 w (.cells #[.int .i64 0, .slice none 0 0, .int .i64 0] 40) (.cells #[.int .i64 0, .slice none 0 0, .int .i64 0] 40)))
    replace HZ := Lib.hid (show SRow 40 _ w.heap.size 0 (.slice none 0 0) 0 from (setRow_other _ (w.heap.size + 1) w.heap.size #[.int .i64 m, .slice none 0 0, .int .i64 m] (by omega)).trans (HZ.out.step (below_new (.cells #[.int .i64 0, .slice none 0 0, .int .i64 0] 40))))
    replace HB := Lib.hid (below_row (bs_hd HB.out (below_new (.cells #[.int .i64 0, .slice none 0 0, .int .i64 0] 40))) (show w.heap.size ≤ w.heap.size + 1 by omega) #[.int .i64 m, .slice none 0 0, .int .i64 m])
    generalize ((w.alloc (.cells #[.int .i64 0, .slice none 0 0, .int .i64 0] 40)).alloc (.cells #[.int .i64 0, .slice none 0 0, .int .i64 0] 40)).setRow (w.heap.size + 1) #[.int .i64 m, .slice none 0 0, .int .i64 m] = w1 at HQ HZ HB ⊢
    have x0 := HQ.out.c0
    have x1 := HQ.out.c1
    have x2 := HQ.out.c2
    go_wp2_with (first | (go_at_call 22; refine (HC.out _).mono ?_; rintro e w2 ⟨rfl, hb⟩; replace HB := Lib.hid (bs_hd HB.out hb); replace HZ := Lib.hid (HZ.out.step hb); replace HQ := Lib.hid (HQ.out.step hb); clear hb; have x0 := HQ.out.c0; have x1 := HQ.out.c1; have x2 := HQ.out.c2) | (refine wpList_store_row rfl _ _ _ rfl w.heap.size #[.int .i64 0, .slice none 0 0, .int .i64 0] rfl rfl _ _ HZ.out (by kernel_rfl) rfl (by kernel_rfl) ?_))
    exact bodyPost_ret (v := .tuple #[.agg #[.int .i64 0, .slice none 0 0, .int .i64 0], .int .i64 8]) (res_cell2 rfl _ _ w.heap.size _ _ (0, 0) _ rfl (setRow_heap _ _ _ _ _ _ HZ.out) Try.underlying40 rfl (by kernel_rfl) _ rfl) rfl ⟨rfl, below_row HB.out (Nat.le_refl _) _⟩
  · have e1 : newM m = m := if_neg h
    have e2 : newE m = 0 := if_neg h
    rw [e2] at HC
    rw [e1, e2]
    clear e1 e2 h
    go_enter Try.func18, Try.ntmps18
    go_upto_region 2 with (first | (refine wpList_store_row rfl _ _ _ rfl (w.heap.size + 1) #[.int .i64 m, .slice none 0 0, .int .i64 m] rfl rfl _ _ (two1 _ _ _) (by kernel_rfl) rfl (by kernel_rfl) ?_))
    have HQ := Lib.hid (show SRow 40 _ (w.heap.size + 1) m (.slice none 0 0) m from setRow_heap _ _ _ #[.int .i64 m, .slice none 0 0, .int .i64 m] _ _ (two1 w (.cells #[.int .i64 0, .slice none 0 0, .int .i64 0] 40) (.cells #[.int .i64 0, .slice none 0 0, .int .i64 0] 40)))
    replace HZ := Lib.hid (show SRow 40 _ w.heap.size 0 (.slice none 0 0) 0 from (setRow_other _ (w.heap.size + 1) w.heap.size #[.int .i64 m, .slice none 0 0, .int .i64 m] (by omega)).trans (HZ.out.step (below_new (.cells #[.int .i64 0, .slice none 0 0, .int .i64 0] 40))))
    replace HB := Lib.hid (below_row (bs_hd HB.out (below_new (.cells #[.int .i64 0, .slice none 0 0, .int .i64 0] 40))) (show w.heap.size ≤ w.heap.size + 1 by omega) #[.int .i64 m, .slice none 0 0, .int .i64 m])
    generalize ((w.alloc (.cells #[.int .i64 0, .slice none 0 0, .int .i64 0] 40)).alloc (.cells #[.int .i64 0, .slice none 0 0, .int .i64 0] 40)).setRow (w.heap.size + 1) #[.int .i64 m, .slice none 0 0, .int .i64 m] = w1 at HQ HZ HB ⊢
    have x0 := HQ.out.c0
    have x1 := HQ.out.c1
    have x2 := HQ.out.c2
    go_wp2_with (first | (go_at_call 22; refine (HC.out _).mono ?_; rintro e w2 ⟨rfl, hb⟩; replace HB := Lib.hid (bs_hd HB.out hb); replace HZ := Lib.hid (HZ.out.step hb); replace HQ := Lib.hid (HQ.out.step hb); clear hb; have x0 := HQ.out.c0; have x1 := HQ.out.c1; have x2 := HQ.out.c2) | (refine wpList_store_row rfl _ _ _ rfl w.heap.size #[.int .i64 m, .slice none 0 0, .int .i64 m] rfl rfl _ _ HZ.out (by kernel_rfl) rfl (by kernel_rfl) ?_))
    exact bodyPost_ret (v := .tuple #[.agg #[.int .i64 m, .slice none 0 0, .int .i64 m], .int .i64 0]) (res_cell2 rfl _ _ w.heap.size _ _ (0, 0) _ rfl (setRow_heap _ _ _ _ _ _ HZ.out) Try.underlying40 rfl (by kernel_rfl) _ rfl) rfl ⟨rfl, below_row HB.out (Nat.le_refl _) _⟩
end Go.Proofs.Yteceinojmdgmeaa


/- HencBack: the argument in memory, and what stands. -/
namespace Go.Proofs.Yteceinojmdgmeaa
open Go.RowKit
set_option linter.unusedVariables false
set_option linter.unusedSimpArgs false

/-- A block's fields, where they lie, and how great the table may be. -/
structure AskV where
  l : List Fld
  o : Option Addr
  n : Nat
  c : Nat
  most : Int
instance : Inhabited AskV := ⟨⟨[], none, 0, 0, 0⟩⟩
def AsksN (W : World) (oa : Option Addr) (L : List AskV) : Prop := ∀ i a, L[i]? = some a → (∃ b o, oa = some ⟨b, o, none⟩ ∧
  W.cell? ⟨b, o + i * 2, none⟩ = some (.slice a.o a.n a.c) ∧ W.cell? ⟨b, o + i * 2 + 1, none⟩ = some (.int .i64 a.most)) ∧ a.l.length = a.n ∧ a.n ≤ a.c ∧ FieldsN W a.o a.l
theorem AsksN.below {W W' : World} {oa : Option Addr} {L : List AskV} (h : AsksN W oa L) (hn : Below W.heap.size W W') : AsksN W' oa L := by
  intro i a ha
  obtain ⟨⟨b, o, e0, h1, h2⟩, h3, h4, h5⟩ := h i a ha
  have e : W'.heap[b]? = W.heap[b]? := hn.block b (World.block_lt_of_cell? _ _ h1)
  exact ⟨⟨b, o, e0, (cell_eq0 e).trans h1, (cell_eq0 e).trans h2⟩, h3, h4, h5.below hn⟩
/-- Both states' rows, and both tables. -/
structure HBk (w : World) (q3 q4 : Nat) (mx le la : Int) (oT : Option Addr) (nT cT : Nat) (oU : Option Addr) (cU : Nat) (T : List Fld) (W : World) : Prop where
  r3 : ERow W q3 mx (.slice oT nT cT) le la
  r4 : HRow W q4 mx (.slice oU nT cU) 4096
  fT : FieldsN W oT T
  fU : FieldsN W oU T
  len : T.length = nT
  capT : nT ≤ cT
  capU : nT ≤ cU
  chk : echk mx le la T = 0
  below : Below w.heap.size w W
  ge3 : w.heap.size ≤ q3
  ge4 : w.heap.size ≤ q4
theorem HBk.step {w W W' : World} {q3 q4 : Nat} {mx le la : Int} {oT oU : Option Addr} {nT cT cU : Nat} {T : List Fld} (h : HBk w q3 q4 mx le la oT nT cT oU cU T W) (hb : Below W.heap.size W W') : HBk w q3 q4 mx le la oT nT cT oU cU T W' :=
  ⟨h.r3.step hb, h.r4.step hb, h.fT.below hb, h.fU.below hb, h.len, h.capT, h.capU, h.chk, bs_hd h.below hb, h.ge3, h.ge4⟩
theorem HBk.ne {w W : World} {q3 q4 : Nat} {mx le la : Int} {oT oU : Option Addr} {nT cT cU : Nat} {T : List Fld} (h : HBk w q3 q4 mx le la oT nT cT oU cU T W) : q3 ≠ q4 := fun e => by
  have h1 := h.r3
  have h2 := h.r4
  unfold ERow at h1
  unfold HRow at h2
  rw [e, h2] at h1
  injection h1 with h1
  injection h1 with h1 _ _
  injection h1 with h1
  cases h1
theorem HBk.light {w W : World} {q3 q4 : Nat} {mx le la : Int} {oT oU : Option Addr} {nT cT cU : Nat} {T : List Fld} (h : HBk w q3 q4 mx le la oT nT cT oU cU T W) : nT ≤ 1000 ∧ ∀ f ∈ T, lightF f = true := by
  have := chk_light (echk_facts h.chk).1
  have h2 := h.len
  exact ⟨by omega, this.2⟩
theorem HRow.sep {W : World} {oa : Option Addr} {R : List Fld} {q : Nat} {m c : Int} {oU : Option Addr} {nU cU : Nat} (h : FieldsN W oa R) (hr : HRow W q m (.slice oU nU cU) c) : R ≠ [] → ∀ a, oa = some a → a.block ≠ q :=
  sep_state h hr (by intro s h; cases h) (by intro s h; cases h) (by intro s h; cases h)
/-- Another size is told. -/
theorem HBk.limit {w W : World} {q3 q4 : Nat} {mx le la most : Int} {oT oU : Option Addr} {nT cT cU : Nat} {T : List Fld} (h : HBk w q3 q4 mx le la oT nT cT oU cU T W) (h0 : 0 ≤ most) :
    HBk w q3 q4 mx (limLe mx le la most T) (limLa mx le la most T) oT nT cT oU cU T (W.setRow q3 #[.int .i64 mx, .slice oT nT cT, .int .i64 (limLe mx le la most T), .int .i64 (limLa mx le la most T)]) :=
  ⟨setRow_heap _ _ _ _ _ _ h.r3, (setRow_other _ _ _ _ h.ne.symm).trans h.r4, h.fT.setRow (sep_eres h.fT h.r3) _, h.fU.setRow (sep_eres h.fU h.r3) _, h.len, h.capT, h.capU, (lim_chk h.chk h0).2, below_row h.below h.ge3 _, h.ge3, h.ge4⟩
/-- Both states are the next ones. -/
theorem HBk.turn {w W : World} {q3 q4 : Nat} {mx le la : Int} {oT oU : Option Addr} {nT cT cU : Nat} {T : List Fld} (h : HBk w q3 q4 mx le la oT nT cT oU cU T W) {oT2 oU2 : Option Addr} {n2 cT2 cU2 : Nat} {T2 : List Fld} (hT : FieldsN W oT2 T2) (hU : FieldsN W oU2 T2) (hl : T2.length = n2) (hc : n2 ≤ cT2) (hd : n2 ≤ cU2) (he : echk la la la T2 = 0) :
    HBk w q3 q4 la la la oT2 n2 cT2 oU2 cU2 T2 ((W.setRow q3 #[.int .i64 la, .slice oT2 n2 cT2, .int .i64 la, .int .i64 la]).setRow q4 #[.int .i64 la, .slice oU2 n2 cU2, .int .i64 4096]) := by
  have h4 : HRow (W.setRow q3 #[.int .i64 la, .slice oT2 n2 cT2, .int .i64 la, .int .i64 la]) q4 mx (.slice oU nT cU) 4096 := (setRow_other _ _ _ _ h.ne.symm).trans h.r4
  have hT2 := hT.setRow (sep_eres hT h.r3) #[.int .i64 la, .slice oT2 n2 cT2, .int .i64 la, .int .i64 la]
  have hU2 := hU.setRow (sep_eres hU h.r3) #[.int .i64 la, .slice oT2 n2 cT2, .int .i64 la, .int .i64 la]
  exact ⟨(setRow_other _ _ _ _ h.ne).trans (setRow_heap _ _ _ _ _ _ h.r3), setRow_heap _ _ _ _ _ _ h4, hT2.setRow (HRow.sep hT2 h4) _, hU2.setRow (HRow.sep hU2 h4) _, hl, hc, hd, he, below_row (below_row h.below h.ge3 _) h.ge4 _, h.ge3, h.ge4⟩
theorem makes_est {ops : Array Oper} {p : Nat} {d : Tmp} {o : Oper} (h : ops[p]? = some o) (hg : o.guard = none) (hd : o.dst = some d) (ho : o.op = .alloc 30) : Makes Try.prog ops p d (.cells #[.int .i64 0, .slice none 0 0, .int .i64 0, .int .i64 0] 30) :=
  ⟨⟨o, h, hg, hd, fun ρ w => by
    obtain ⟨dst, op, type, pos, after, guard⟩ := o
    simp only at ho
    subst ho
    go_simp⟩⟩
theorem BytesN.zeroRow {W : World} {ob : Option Addr} {bs : List Nat} {g : Nat} {ty : TypeId} (h : BytesN W ob bs) (hz : W.heap[g]? = some (.cells #[.int .i64 0, .slice none 0 0, .int .i64 0, .int .i64 0] ty (0, 0))) (cs : Array Value) : BytesN (W.setRow g cs) ob bs := by
  intro i hi
  obtain ⟨a, ha, hc⟩ := h i hi
  refine ⟨a, ha, (cell_eq (setRow_other W g _ cs ?_)).trans hc⟩
  intro e
  unfold World.cell? at hc
  rw [e, hz] at hc
  dsimp only at hc
  split at hc
  · cases hc
  · generalize (a.add i).off = o at hc
    rcases o with _ | _ | _ | _ | o
    · cases hc
    · cases hc
    · cases hc
    · cases hc
    · simp at hc
theorem light_lt {L : List Fld} (h : light L = true) : ∀ f ∈ L, lt200 f = true := by
  unfold light at h
  simp only [Bool.and_eq_true, List.all_eq_true] at h
  exact h.2
/-- A row that is written over with what another one has. -/
theorem ERow.again {W : World} {g q : Nat} {m a b m2 a2 b2 : Int} {v v2 : Value} (h : ERow W g m v a b) (hq : ERow W q m2 v2 a2 b2) : ERow (W.setRow q #[.int .i64 m, v, .int .i64 a, .int .i64 b]) g m v a b := by
  by_cases e : g = q
  · subst e; exact setRow_heap _ _ _ _ _ _ h
  · exact (setRow_other _ _ _ _ e).trans h
theorem HRow.again {W : World} {g q : Nat} {m c m2 c2 : Int} {v v2 : Value} (h : HRow W g m v c) (hq : HRow W q m2 v2 c2) : HRow (W.setRow q #[.int .i64 m, v, .int .i64 c]) g m v c := by
  by_cases e : g = q
  · subst e; exact setRow_heap _ _ _ _ _ _ h
  · exact (setRow_other _ _ _ _ e).trans h
theorem HRow.apart {W : World} {g q : Nat} {m c m2 a2 b2 : Int} {v v2 : Value} (h : HRow W g m v c) (hq : ERow W q m2 v2 a2 b2) : g ≠ q := fun e => by
  unfold HRow at h
  unfold ERow at hq
  rw [e, hq] at h
  injection h with h
  injection h with h _ _
  injection h with h
  cases h
theorem sameL_self : ∀ L : List Fld, sameL L L = true
  | [] => rfl
  | f :: l => by unfold sameL; rw [sameL_self l]; simp [eqF]
theorem new_4096 : newM 4096 = 4096 ∧ newE 4096 = 0 := by decide
end Go.Proofs.Yteceinojmdgmeaa

