/- footmanref04.Add. -/
import Derived.Test.YteceinojmdgmeaaC35
import Derived.Test.YteceinojmdgmeaaC32
import Derived.Deep.AppendLies
namespace Go.Proofs.Yteceinojmdgmeaa
open Go.RowKit
set_option linter.unusedVariables false
set_option linter.unusedSimpArgs false

theorem fitN_cons (f : Fld) (L : List Fld) (mx : Int) (h : (f.sz : Int) ≤ mx) : ∀ k, fitN (f :: L) mx (k + 1) = fitN L (mx - f.sz) k + 1
  | 0 => by
    unfold fitN
    rw [if_neg (by simp [sumF]; omega)]
  | k + 1 => by
    have ih := fitN_cons f L mx h k
    have e : sumF ((f :: L).take (k + 1 + 1)) = f.sz + sumF (L.take (k + 1)) := by simp [sumF]
    show (if mx < (sumF ((f :: L).take (k + 1 + 1)) : Nat) then fitN (f :: L) mx (k + 1) else k + 1 + 1) = (if mx - f.sz < (sumF (L.take (k + 1)) : Nat) then fitN L (mx - f.sz) k else k + 1) + 1
    rw [e, ih]
    by_cases h2 : mx < ((f.sz + sumF (L.take (k + 1)) : Nat) : Int)
    · rw [if_pos h2, if_pos (by omega)]
    · rw [if_neg h2, if_neg (by omega)]
theorem fitN_zero (L : List Fld) (mx : Int) (h : mx < 0) : ∀ k, fitN L mx k = 0
  | 0 => rfl
  | k + 1 => by
    unfold fitN
    rw [if_pos (by omega)]
    exact fitN_zero L mx h k
theorem fitN_cons0 (f : Fld) (L : List Fld) (mx : Int) (h : mx < (f.sz : Int)) : ∀ k, fitN (f :: L) mx k = 0
  | 0 => rfl
  | k + 1 => by
    unfold fitN
    have e : sumF ((f :: L).take (k + 1)) = f.sz + sumF (L.take k) := by simp [sumF]
    rw [e, if_pos (by omega)]
    exact fitN_cons0 f L mx h k
theorem addL_fit (mx : Int) (L : List Fld) (f : Fld) (h : chkN mx L = 0) :
    (⟨f.name, f.value, false⟩ :: L).take (fitN (⟨f.name, f.value, false⟩ :: L) mx (L.length + 1)) = addL mx L f := by
  have es : (⟨f.name, f.value, false⟩ : Fld).sz = f.sz := rfl
  unfold addL
  rw [if_neg (by omega)]
  by_cases h1 : (f.sz : Int) ≤ mx
  · rw [if_pos h1, fitN_cons _ _ _ (by rw [es]; exact h1), List.take_succ_cons, es]
  · rw [if_neg h1, fitN_cons0 _ _ _ (by rw [es]; omega), fitN_zero _ _ (by omega)]
    simp
def DAddPost (oa : Option Addr) (mx : Int) (L : List Fld) (f : Fld) (w : World) (e : Ending) (w' : World) : Prop :=
  ∃ ob nb cb, e = .returned (.agg #[.int .i64 mx, .slice ob nb cb]) ∧ (addL mx L f).length = nb ∧ nb ≤ cb ∧ FieldsN w' ob (addL mx L f) ∧
    ((ob = oa ∧ addL mx L f = L) ∨ ∀ a, ob = some a → w.heap.size ≤ a.block) ∧ Below w.heap.size w w'
/-- What stands at the beginning. -/
structure Da (w W : World) (mx : Int) (v : Value) (f : Fld) : Prop where
  tb : W.heap[w.heap.size]? = some (.cells #[.int .i64 mx, v] 38 (0, 0))
  fr : FRow W (w.heap.size + 1) f
  rs : W.heap[w.heap.size + 2]? = some (.cells #[.int .i64 0, .slice none 0 0] 38 (0, 0))
  below : Below w.heap.size w W
  lt : w.heap.size + 2 < W.heap.size
theorem Da.step {w W W' : World} {mx : Int} {v : Value} {f : Fld} (h : Da w W mx v f) (hb : Below W.heap.size W W') : Da w W' mx v f :=
  ⟨(hb.block _ (by have := h.lt; omega)).trans h.tb, h.fr.step hb, (hb.block _ h.lt).trans h.rs, bs_hd h.below hb, Nat.lt_of_lt_of_le h.lt hb.size⟩
theorem Da.stepB {w W W' : World} {mx : Int} {v : Value} {f : Fld} (h : Da w W mx v f) (hb : Below (w.heap.size + 3) W W') : Da w W' mx v f :=
  ⟨(hb.block _ (by omega)).trans h.tb, (hb.block _ (by omega)).trans h.fr, (hb.block _ (by omega)).trans h.rs, h.below.trans (hb.mono (by omega)), Nat.lt_of_lt_of_le h.lt hb.size⟩
theorem Da.c0 {w W : World} {mx : Int} {v : Value} {f : Fld} (h : Da w W mx v f) : W.cell? ⟨w.heap.size, 0, none⟩ = some (.int .i64 mx) := cell_of_row _ _ 0 _ _ _ h.tb
theorem Da.c1 {w W : World} {mx : Int} {v : Value} {f : Fld} (h : Da w W mx v f) : W.cell? ⟨w.heap.size, 1, none⟩ = some v := cell_of_row _ _ 1 _ _ _ h.tb
theorem Da.new (w : World) (mx : Int) (v : Value) (f : Fld) : Da w (((w.alloc (.cells #[.int .i64 mx, v] 38)).alloc (.cells #[.string f.name, .string f.value, .bool f.never] 25)).alloc (.cells #[.int .i64 0, .slice none 0 0] 38)) mx v f :=
  ⟨three0 _ _ _ _, three1 _ _ _ _, three2 _ _ _ _, bs_hd (bs_hd ((Below.refl _ _).alloc (Nat.le_refl _) _) ((Below.refl _ _).alloc (Nat.le_refl _) _)) ((Below.refl _ _).alloc (Nat.le_refl _) _), by simp⟩
theorem Da.set2 {w W : World} {mx : Int} {v : Value} {f : Fld} (h : Da w W mx v f) (b : Bool) : Da w (W.setCell ⟨w.heap.size + 1, 2, none⟩ (.bool b)) mx v ⟨f.name, f.value, b⟩ :=
  ⟨(Below.heap_setCell _ _ _ _ (by simp)).trans h.tb, h.fr.set2 b, (Below.heap_setCell _ _ _ _ (by simp)).trans h.rs, h.below.setCell (by simp) _, by simpa [World.setCell] using h.lt⟩
/-- An append of nothing, where there is room. -/
theorem run_append_zero {P : Program} (w : World) (t ty e : TypeId) (size : Nat) (ht : P.underlying t = some (.slice e)) (hsz : (P.info? e).map (·.size) = some size) (a : Addr) (n c : Nat) (hnc : n ≤ c) (oa : Option Addr) (c2 : Nat) :
    (Builtin.append_ #[t, t] ty #[.slice (some a) n c, .slice oa 0 c2]).run P w = .ok (.slice (some a) n c) w := by
  cases hq : P.info? e with
  | none => rw [hq] at hsz; cases hsz
  | some i =>
    have hs : i.size = size := by rw [hq] at hsz; simpa using hsz
    have hu : (underlying t).run P w = .ok (.slice e) w := run_underlying ht w
    cases oa <;>
      simp [Builtin.append_, Sem.run_bind, hu, sizeOf, typeInfo, hq, Builtin.lenOf, hnc, Builtin.firstCells, loadCells, loadCellsFrom, storeCells, Result.andThen, pure]
theorem step_append_zero {P : Program} {ops : Array Oper} {o : Oper} {a : Act} {w : World} {K : Act → World → Prop} {Q : Exit → Act → World → Prop} {E : Prop} (d : Option Tmp) (hd : o.dst = d) (hgd : o.guard = none) (s x : Operand) (t : TypeId)
    (ho : o.op = .call { callee := .builtin .append, args := #[s, x], argTypes := #[t, t] }) (e : TypeId) (size : Nat) (ht : P.underlying t = some (.slice e)) (hsz : (P.info? e).map (·.size) = some size)
    (ad : Addr) (n c : Nat) (hnc : n ≤ c) (hs : a.eval s = .slice (some ad) n c) (oa : Option Addr) (c2 : Nat) (hx : a.eval x = .slice oa 0 c2) (h : K (a.put d (.slice (some ad) n c)) w) :
    if Region.wanted o (yielded ops a.tmps) = true then Oper.wp P o a w K Q else E := by
  have hw : Region.wanted o (yielded ops a.tmps) = true := by simp [Region.wanted, hgd]
  rw [if_pos hw]
  unfold Oper.wp execOp
  simp only [ho, resolve, invoke, builtin, Sem.run_bind, Sem.run_pure, Result.andThen_ok, List.map_toArray, List.map_cons, List.map_nil, hs, hx, run_append_zero w t o.type e size ht hsz ad n c hnc oa c2]
  rw [← hd] at h
  exact h
set_option maxRecDepth 100000 in
set_option maxHeartbeats 4000000 in
theorem dadd_no (oa : Option Addr) (n cap : Nat) (L : List Fld) (hn : L.length = n) (hnc : n ≤ cap) (hl : ∀ f ∈ L, lightF f = true) (hn30 : n ≤ 1000) (mx : Int) (f : Fld) (w : World) (hf : FieldsN w oa L) (hk : chkN mx L ≠ 0) :
    Calls Try.prog 43 #[.agg #[.int .i64 mx, .slice oa n cap], .agg #[.string f.name, .string f.value, .bool f.never]] w (DAddPost oa mx L f w) := by
  have HH := Lib.hid (Da.new w mx (.slice oa n cap) f)
  have HFW := Lib.hid (show ∀ W, Below w.heap.size w W → FieldsN W oa L from fun W hW => hf.below hW)
  have HCK := Lib.hid (fun W (hW : Below w.heap.size w W) => refCheck_any mx oa n cap L hn hl hn30 W (hf.below hW))
  have HN := Lib.hid hn
  have HR : Hid (addL mx L f = L) := Lib.hid (by unfold addL; rw [if_pos hk])
  unfold DAddPost
  rw [HR.out]
  generalize chkN mx L = ck at HCK hk
  have q1 : (ck == 0) = false := beq_eq_false_iff_ne.2 hk
  have q2 : (ck != 0) = true := by rw [bne, q1]; rfl
  clear hk hf hn hl
  obtain ⟨nm, vl, nv⟩ := f
  dsimp only at HH ⊢
  go_enter Try.func43, Try.ntmps43
  go_upto_region 1 with fail
  generalize (((w.alloc (.cells #[.int .i64 mx, .slice oa n cap] 38)).alloc (.cells #[.string nm, .string vl, .bool nv] 25)).alloc (.cells #[.int .i64 0, .slice none 0 0] 38)) = w1 at HH ⊢
  have x0 := HH.out.c0
  have x1 := HH.out.c1
  go_wp2_with (first | (go_at_call 46; refine (HCK.out _ HH.out.below).mono ?_; rintro e w2 ⟨rfl, hb⟩; replace HH := Lib.hid (HH.out.step hb); clear hb; have x0 := HH.out.c0; have x1 := HH.out.c1) | (refine wpList_store_row rfl _ _ _ rfl (w.heap.size + 2) #[.int .i64 mx, .slice oa n cap] rfl rfl _ _ HH.out.rs (by kernel_rfl) rfl (by kernel_rfl) ?_))
  exact bodyPost_ret (v := .agg #[.int .i64 mx, .slice oa n cap]) (results_cell_row rfl _ _ (w.heap.size + 2) _ _ (0, 0) _ rfl (setRow_heap _ _ _ _ _ _ HH.out.rs) Try.underlying38 rfl (by kernel_rfl)) rfl
    ⟨oa, n, cap, rfl, HN.out, hnc, HFW.out _ (below_row HH.out.below (by omega) _), .inl ⟨rfl, by trivial⟩, below_row HH.out.below (by omega) _⟩
/-- What the last region looks at. -/
structure Db (w : World) (mx : Int) (v : Value) (W : World) : Prop where
  tb : W.heap[w.heap.size]? = some (.cells #[.int .i64 mx, v] 38 (0, 0))
  rs : ∃ cs, W.heap[w.heap.size + 2]? = some (.cells cs 38 (0, 0)) ∧ cs.size = 2
  below : Below w.heap.size w W
  lt : w.heap.size + 2 < W.heap.size
theorem Db.stepB {w W W' : World} {mx : Int} {v : Value} (h : Db w mx v W) (hb : Below (w.heap.size + 3) W W') : Db w mx v W' := by
  obtain ⟨h1, ⟨cs, h2, h2'⟩, h3, h4⟩ := h
  exact ⟨(hb.block _ (by omega)).trans h1, ⟨cs, (hb.block _ (by omega)).trans h2, h2'⟩, h3.trans (hb.mono (by omega)), Nat.lt_of_lt_of_le h4 hb.size⟩
theorem Db.setRow {w W : World} {mx : Int} {v : Value} {ds : Array Value} (hd : ds.size = 2) (h : Db w mx v W) : Db w mx v (W.setRow (w.heap.size + 2) ds) := by
  obtain ⟨h1, ⟨cs, h2, h2'⟩, h3, h4⟩ := h
  exact ⟨(setRow_other _ _ _ _ (by omega)).trans h1, ⟨_, setRow_heap _ _ _ _ _ _ h2, hd⟩, below_row h3 (by omega) _, by simpa [World.setRow] using h4⟩
set_option maxRecDepth 100000 in
set_option maxHeartbeats 4000000 in
theorem dadd_yes (oa : Option Addr) (n cap : Nat) (L : List Fld) (hn : L.length = n) (hnc : n ≤ cap) (mx : Int) (f : Fld) (hlf : lightF f = true) (w : World) (hf : FieldsN w oa L) (hk : chkN mx L = 0) :
    Calls Try.prog 43 #[.agg #[.int .i64 mx, .slice oa n cap], .agg #[.string f.name, .string f.value, .bool f.never]] w (DAddPost oa mx L f w) := by
  obtain ⟨hn128, hl⟩ := chk_light hk
  have HH := Lib.hid (Da.new w mx (.slice oa n cap) f)
  have HFW := Lib.hid (show ∀ W, Below w.heap.size w W → FieldsN W oa L from fun W hW => hf.below hW)
  have HCK := Lib.hid (fun W (hW : Below w.heap.size w W) => refCheck_any mx oa n cap L hn hl (by omega) W (hf.below hW))
  have HFT := Lib.hid (fun ob cb (hcb : 1 + n ≤ cb) W hW => fit_any ob (1 + n) cb (⟨f.name, f.value, false⟩ :: L) (by simp; omega) (by intro g hg; rcases List.mem_cons.1 hg with rfl | hg; exact hlf; exact hl g hg) (by omega) hcb mx W hW)
  have HN := Lib.hid hn
  have HR := Lib.hid (addL_fit mx L f hk)
  have HNL := Lib.hid (show n ≤ 128 by omega)
  unfold FitPost at HFT
  rw [show (⟨f.name, f.value, false⟩ :: L : List Fld).length = L.length + 1 from rfl, HR.out] at HFT
  unfold DAddPost
  generalize hR : addL mx L f = R at HFT ⊢
  rw [hk] at HCK
  clear hk hf hn hl hR HR hn128 hlf
  obtain ⟨nm, vl, nv⟩ := f
  dsimp only at HH HFT ⊢
  go_enter Try.func43, Try.ntmps43
  go_upto_region 1 with fail
  generalize (((w.alloc (.cells #[.int .i64 mx, .slice oa n cap] 38)).alloc (.cells #[.string nm, .string vl, .bool nv] 25)).alloc (.cells #[.int .i64 0, .slice none 0 0] 38)) = w1 at HH ⊢
  have x0 := HH.out.c0
  have x1 := HH.out.c1
  go_upto_region 3 with (first | (go_at_call 46; refine (HCK.out _ HH.out.below).mono ?_; rintro e w2 ⟨rfl, hb⟩; replace HH := Lib.hid (HH.out.step hb); clear hb; have x0 := HH.out.c0; have x1 := HH.out.c1))
  clear x0 x1
  have y2 := HH.out.fr.c2
  have yz2 := HH.out.fr.z 2
  replace HH := Lib.hid (HH.out.set2 false)
  go_upto_region 4 with fail
  generalize w2.setCell ⟨w.heap.size + 1, 2, none⟩ (.bool false) = w3 at HH ⊢
  clear y2 yz2
  have y0 := HH.out.fr.c0
  have y1 := HH.out.fr.c1
  have y2 := HH.out.fr.c2
  dsimp only at y0 y1 y2
  go_upto_region 5 with fail
  clear x0 x1 y0 y1 y2
  have HD4 : Hid (Db w mx (.slice oa n cap) (w3.alloc (.cells #[.string nm, .string vl, .bool false] 25)).drew) := Lib.hid ((Db.mk HH.out.tb ⟨_, HH.out.rs, rfl⟩ HH.out.below HH.out.lt).stepB (((Below.refl _ _).alloc (show w.heap.size + 3 ≤ w3.heap.size by have := HH.out.lt; omega) _).drew))
  have HO4 : Hid (OwnF (w3.alloc (.cells #[.string nm, .string vl, .bool false] 25)).drew (w.heap.size + 3) (.slice (some ⟨w3.heap.size, 0, none⟩) 1 1) [⟨nm, vl, false⟩]) := Lib.hid ⟨by simp [fcells, Fld.cells], .inr ⟨w3.heap.size, 1, _, rfl, by have := HH.out.lt; omega, heap_alloc_new w3 _, by simp, by simp [maxLen], by simp, by simp [fcells, Fld.cells]⟩⟩
  have HZ4 : Hid (w3.heap.size < (w3.alloc (.cells #[.string nm, .string vl, .bool false] 25)).drew.heap.size) := Lib.hid (show w3.heap.size < (w3.alloc (.cells #[.string nm, .string vl, .bool false] 25)).heap.size by simp)
  clear HH
  generalize w3.alloc (.cells #[.string nm, .string vl, .bool false] 25) = w4 at HD4 HO4 HZ4 ⊢
  generalize w3.heap.size = g1 at HO4 HZ4 ⊢
  refine wp_region_held_drew (S := Db w mx (.slice oa n cap)) (by kernel_rfl) HD4.out (fun hHeld => ?_)
  refine wpAnyH_takeD (i := 0) (v := ?_) (some 13) rfl rfl rfl (by kernel_rfl) (by kernel_rfl) (by kernel_rfl) (fun _ _ _ h => h) ?_ (by assumption) ?_
  rotate_left
  · intro W hW
    have c0 : W.cell? ⟨w.heap.size, 0, none⟩ = some (.int .i64 mx) := cell_of_row _ _ 0 _ _ _ hW.tb
    have c1 : W.cell? ⟨w.heap.size, 1, none⟩ = some (.slice oa n cap) := cell_of_row _ _ 1 _ _ _ hW.tb
    go_simp
    with_reducible rfl
  try simp only [Act.put, List.setIfInBounds_toArray, List.set_cons_zero, List.set_cons_succ]
  refine wpAnyH_takeD (i := 1) (v := ?_) (some 14) rfl rfl rfl (by kernel_rfl) (by kernel_rfl) (by kernel_rfl) (fun _ _ _ h => h) ?_ (by assumption) ?_
  rotate_left
  · intro W hW
    have c0 : W.cell? ⟨w.heap.size, 0, none⟩ = some (.int .i64 mx) := cell_of_row _ _ 0 _ _ _ hW.tb
    have c1 : W.cell? ⟨w.heap.size, 1, none⟩ = some (.slice oa n cap) := cell_of_row _ _ 1 _ _ _ hW.tb
    go_simp
    with_reducible rfl
  try simp only [Act.put, List.setIfInBounds_toArray, List.set_cons_zero, List.set_cons_succ]
  refine wpAnyH_takeD (i := 2) (v := ?_) (some 15) rfl rfl rfl (by kernel_rfl) (by kernel_rfl) (by kernel_rfl) (fun _ _ _ h => h) ?_ (by assumption) ?_
  rotate_left
  · intro W hW
    have c0 : W.cell? ⟨w.heap.size, 0, none⟩ = some (.int .i64 mx) := cell_of_row _ _ 0 _ _ _ hW.tb
    have c1 : W.cell? ⟨w.heap.size, 1, none⟩ = some (.slice oa n cap) := cell_of_row _ _ 1 _ _ _ hW.tb
    go_simp
    with_reducible rfl
  try simp only [Act.put, List.setIfInBounds_toArray, List.set_cons_zero, List.set_cons_succ]
  refine wpAnyH_takeD (i := 3) (v := ?_) (some 16) rfl rfl rfl (by kernel_rfl) (by kernel_rfl) (by kernel_rfl) (fun _ _ _ h => h) ?_ (by assumption) ?_
  rotate_left
  · intro W hW
    have c0 : W.cell? ⟨w.heap.size, 0, none⟩ = some (.int .i64 mx) := cell_of_row _ _ 0 _ _ _ hW.tb
    have c1 : W.cell? ⟨w.heap.size, 1, none⟩ = some (.slice oa n cap) := cell_of_row _ _ 1 _ _ _ hW.tb
    go_simp
    with_reducible rfl
  try simp only [Act.put, List.setIfInBounds_toArray, List.set_cons_zero, List.set_cons_succ]
  refine wpAnyH_takeD (i := 4) (v := ?_) (some 17) rfl rfl rfl (by kernel_rfl) (by kernel_rfl) (by kernel_rfl) (fun _ _ _ h => h) ?_ (by assumption) ?_
  rotate_left
  · intro W hW
    have c0 : W.cell? ⟨w.heap.size, 0, none⟩ = some (.int .i64 mx) := cell_of_row _ _ 0 _ _ _ hW.tb
    have c1 : W.cell? ⟨w.heap.size, 1, none⟩ = some (.slice oa n cap) := cell_of_row _ _ 1 _ _ _ hW.tb
    go_simp
    with_reducible rfl
  try simp only [Act.put, List.setIfInBounds_toArray, List.set_cons_zero, List.set_cons_succ]
  refine wpAnyH_takeD (i := 6) (v := ?_) (some 19) rfl rfl rfl (by kernel_rfl) (by kernel_rfl) (by kernel_rfl) (fun _ _ _ h => h) ?_ (by assumption) ?_
  rotate_left
  · intro W hW
    have c0 : W.cell? ⟨w.heap.size, 0, none⟩ = some (.int .i64 mx) := cell_of_row _ _ 0 _ _ _ hW.tb
    have c1 : W.cell? ⟨w.heap.size, 1, none⟩ = some (.slice oa n cap) := cell_of_row _ _ 1 _ _ _ hW.tb
    go_simp
    with_reducible rfl
  try simp only [Act.put, List.setIfInBounds_toArray, List.set_cons_zero, List.set_cons_succ]
  refine wpAnyH_takeD (i := 7) (v := ?_) (some 20) rfl rfl rfl (by kernel_rfl) (by kernel_rfl) (by kernel_rfl) (fun _ _ _ h => h) ?_ (by assumption) ?_
  rotate_left
  · intro W hW
    have c0 : W.cell? ⟨w.heap.size, 0, none⟩ = some (.int .i64 mx) := cell_of_row _ _ 0 _ _ _ hW.tb
    have c1 : W.cell? ⟨w.heap.size, 1, none⟩ = some (.slice oa n cap) := cell_of_row _ _ 1 _ _ _ hW.tb
    go_simp
    with_reducible rfl
  try simp only [Act.put, List.setIfInBounds_toArray, List.set_cons_zero, List.set_cons_succ]
  clear hHeld
  generalize w4.drew = w5 at HD4 HO4 HZ4 ⊢
  refine wpAnyH_ready (rs := [5]) (by kernel_rfl) (by simp) (AllReadyH.cons rfl (fun K hK => ?_) AllReadyH.nil)
  obtain ⟨i0, hi0, hz0, hz1, hz2⟩ := info_parts field_info
  by_cases hn0 : n = 0
  · subst hn0
    refine step_append_zero (some 18) rfl rfl _ _ 26 rfl 25 3 Try.underlying26 (by kernel_rfl) ⟨g1, 0, none⟩ 1 1 (Nat.le_refl _) rfl oa cap rfl ?_
    refine hK.out _ _ HD4.out (fun hHeld => ?_)
    have HL0 : L = [] := List.eq_nil_of_length_eq_zero HN.out
    subst HL0
    obtain ⟨_, _, e1, hff, _⟩ := HO4.out.form
    obtain ⟨rfl, hz9, rfl⟩ := Value.slice.inj e1
    clear hz9
    have HV := Lib.hid (And.intro (show 1 + 0 ≤ 1 by omega) hff)
    have HD := Lib.hid HD4.out
    clear hi0 hz0 hz1 hz2 hK K hff e1 HN HFW HCK HNL
    refine wpAnyH_ready (rs := [8]) (by kernel_rfl) (by simp) (AllReadyH.cons rfl (fun K hK => ?_) AllReadyH.nil)
    try simp only [Act.put, List.setIfInBounds_toArray, List.set_cons_zero, List.set_cons_succ]
    go_simp
    go_wp2_with (go_at_call 67; refine (HFT.out _ _ HV.out.1 _ HV.out.2).mono ?_; rintro e w6 ⟨v, rfl, ho, hb⟩)
    refine hK.out _ _ (HD.out.stepB (hb.mono (by have := HD.out.lt; omega))) (fun hHeld => ?_)
    obtain ⟨ob, cb, rfl, hf5, hcb, hx5⟩ := ho.form
    have HX5 := Lib.hid (show ∀ a, ob = some a → w.heap.size + 2 < a.block from fun a ha => by have h1 := (hx5.2 a ha).1; have h2 := HD.out.lt; omega)
    have HV5 := Lib.hid (And.intro hcb hf5)
    clear ho hb hcb hf5 hx5 hK K
    refine wpAnyH_takeD (i := 9) (v := ?_) (some 22) rfl rfl rfl (by kernel_rfl) (by kernel_rfl) (by kernel_rfl) (fun _ _ _ h => h) ?_ (by assumption) ?_
    rotate_left
    · intro W hW
      go_simp
      with_reducible rfl
    try simp only [Act.put, List.setIfInBounds_toArray, List.set_cons_zero, List.set_cons_succ]
    obtain ⟨cs2, hrs, hsz2⟩ := hHeld.rs
    have HR2 := Lib.hid (setRow_heap w6 _ _ #[.int .i64 mx, .slice ob R.length cb] _ _ hrs)
    have HB5 := Lib.hid hHeld.below
    refine wpAnyH_store (i := 10) (by kernel_rfl) rfl rfl rfl _ _ _ rfl (w.heap.size + 2) #[.int .i64 mx, .slice ob R.length cb] rfl rfl 38 cs2 hrs (by kernel_rfl) hsz2 (by kernel_rfl) (hHeld.setRow rfl) (fun hHeld => ?_)
    refine wpAnyH_done (by kernel_rfl) ?_ _
    clear hHeld hrs hsz2
    go_wp2_with fail
    exact bodyPost_ret (v := .agg #[.int .i64 mx, .slice ob R.length cb]) (results_cell_row rfl _ _ (w.heap.size + 2) _ _ (0, 0) _ rfl HR2.out Try.underlying38 rfl (by kernel_rfl)) rfl
      ⟨ob, _, cb, rfl, rfl, HV5.out.1, HV5.out.2.setRow (fun _ a ha => by have := HX5.out a ha; omega) _, .inr (fun a ha => by have := HX5.out a ha; omega), below_row HB5.out (by omega) _⟩
  · obtain ⟨ad, hoa⟩ : ∃ ad, oa = some ad := by
      cases oa with
      | some a => exact ⟨a, rfl⟩
      | none => exact absurd ((HFW.out _ HD4.out.below).none_nil) (fun h => hn0 (by rw [← HN.out, h]; rfl))
    subst hoa
    have hfl := HFW.out _ HD4.out.below
    obtain ⟨b0, o0, he, _⟩ := hfl 0 (L[0]'(by rw [HN.out]; omega)) (List.getElem?_eq_getElem _)
    obtain rfl := Option.some.inj he
    have HFL := Lib.hid hfl
    have HSZ := Lib.hid (show w.heap.size + 3 ≤ w5.heap.size by have := HD4.out.lt; omega)
    have HG1 := Lib.hid (show w.heap.size + 3 ≤ g1 from by obtain ⟨_, _, e1, _, _, _, hx⟩ := HO4.out.form; exact (hx _ (by injection e1 with e1 _ _; exact e1.symm)).1)
    clear hfl he
    refine step_append_lies _ (by rfl) _ _ _ (by rfl) (w.heap.size + 3) 25 i0 _ 3 40 Try.underlying26 hi0 hz0 hz1 hz2 rfl (by omega) (.slice (some ⟨g1, 0, none⟩) 1 1) 1 (fcells [⟨nm, vl, false⟩]) (by rfl) HO4.out ⟨b0, o0, none⟩ n cap (fcells L) (by rfl) (by rw [fcells_len, HN.out]) (fun j u hj => by
      have ea : (⟨b0, o0, none⟩ : Addr).add j = ⟨b0, o0 + j, none⟩ := by unfold Addr.add; split <;> simp_all
      rw [ea]; exact FieldsN.cells L HFL.out j u hj) (fcells_one L) (by omega) (by unfold maxLen; have := HNL.out; omega) (by have := HNL.out; omega) HSZ.out w5.heap.size rfl ?_
    intro g c7 w7 hown hg hat hlt
    have hbg : Below (w.heap.size + 3) w5 w7 := (Below.refl _ _).grown hg HSZ.out (fun k hk => by simp only [Value.ownBlock, Option.some.injEq] at hk; have := HG1.out; omega)
    have HD := Lib.hid (HD4.out.stepB hbg)
    have ho7 : OwnF w7 (w.heap.size + 3) (.slice (some ⟨g, 0, none⟩) (1 + n) c7) (⟨nm, vl, false⟩ :: L) := by
      unfold OwnF
      rw [fcells_cons, List.length_cons, HN.out, Nat.add_comm n 1]
      simpa [fcells] using hown
    obtain ⟨_, _, e1, hff, hle, _⟩ := ho7.form
    injection e1 with e1 e2 e3
    have HV := Lib.hid (And.intro (show 1 + n ≤ c7 by rw [e3, Nat.add_comm, ← HN.out]; exact hle) (e1 ▸ hff))
    show K (Act.put _ (some 18) _) _
    refine hK.out _ _ HD.out (fun hHeld => ?_)
    clear hi0 hz0 hz1 hz2 hK K hff e1 e2 e3 hle HFW HCK HNL hown hg hat hlt hbg ho7 HFL HSZ HG1 HO4 HZ4
    refine wpAnyH_ready (rs := [8]) (by kernel_rfl) (by simp) (AllReadyH.cons rfl (fun K hK => ?_) AllReadyH.nil)
    try simp only [Act.put, List.setIfInBounds_toArray, List.set_cons_zero, List.set_cons_succ]
    go_simp
    go_wp2_with (go_at_call 67; refine (HFT.out _ _ HV.out.1 _ HV.out.2).mono ?_; rintro e w6 ⟨v, rfl, ho, hb⟩)
    refine hK.out _ _ (HD.out.stepB (hb.mono (by have := HD.out.lt; omega))) (fun hHeld => ?_)
    obtain ⟨ob, cb, rfl, hf5, hcb, hx5⟩ := ho.form
    have HX5 := Lib.hid (show ∀ a, ob = some a → w.heap.size + 2 < a.block from fun a ha => by have h1 := (hx5.2 a ha).1; have h2 := HD.out.lt; omega)
    have HV5 := Lib.hid (And.intro hcb hf5)
    clear ho hb hcb hf5 hx5 hK K
    refine wpAnyH_takeD (i := 9) (v := ?_) (some 22) rfl rfl rfl (by kernel_rfl) (by kernel_rfl) (by kernel_rfl) (fun _ _ _ h => h) ?_ (by assumption) ?_
    rotate_left
    · intro W hW
      go_simp
      with_reducible rfl
    try simp only [Act.put, List.setIfInBounds_toArray, List.set_cons_zero, List.set_cons_succ]
    obtain ⟨cs2, hrs, hsz2⟩ := hHeld.rs
    have HR2 := Lib.hid (setRow_heap w6 _ _ #[.int .i64 mx, .slice ob R.length cb] _ _ hrs)
    have HB5 := Lib.hid hHeld.below
    refine wpAnyH_store (i := 10) (by kernel_rfl) rfl rfl rfl _ _ _ rfl (w.heap.size + 2) #[.int .i64 mx, .slice ob R.length cb] rfl rfl 38 cs2 hrs (by kernel_rfl) hsz2 (by kernel_rfl) (hHeld.setRow rfl) (fun hHeld => ?_)
    refine wpAnyH_done (by kernel_rfl) ?_ _
    clear hHeld hrs hsz2
    go_wp2_with fail
    exact bodyPost_ret (v := .agg #[.int .i64 mx, .slice ob R.length cb]) (results_cell_row rfl _ _ (w.heap.size + 2) _ _ (0, 0) _ rfl HR2.out Try.underlying38 rfl (by kernel_rfl)) rfl
      ⟨ob, _, cb, rfl, rfl, HV5.out.1, HV5.out.2.setRow (fun _ a ha => by have := HX5.out a ha; omega) _, .inr (fun a ha => by have := HX5.out a ha; omega), below_row HB5.out (by omega) _⟩
theorem dadd_any (oa : Option Addr) (n cap : Nat) (L : List Fld) (hn : L.length = n) (hnc : n ≤ cap) (hl : ∀ f ∈ L, lightF f = true) (hn30 : n ≤ 1000) (mx : Int) (f : Fld) (hlf : lightF f = true) (w : World) (hf : FieldsN w oa L) :
    Calls Try.prog 43 #[.agg #[.int .i64 mx, .slice oa n cap], .agg #[.string f.name, .string f.value, .bool f.never]] w (DAddPost oa mx L f w) := by
  by_cases hk : chkN mx L = 0
  · exact dadd_yes oa n cap L hn hnc mx f hlf w hf hk
  · exact dadd_no oa n cap L hn hnc hl hn30 mx f w hf hk
end Go.Proofs.Yteceinojmdgmeaa

