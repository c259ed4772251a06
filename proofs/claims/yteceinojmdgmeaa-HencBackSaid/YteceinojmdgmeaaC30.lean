/- HdD · HdE: joined by a program, for a claim has at most 60 files. -/
import Derived.Test.YteceinojmdgmeaaC29
import Derived.Test.YteceinojmdgmeaaC26
import Derived.RegionTactic
/- hdec: step. -/
namespace Go.Proofs.Yteceinojmdgmeaa
open Go.RowKit
set_option linter.unusedVariables false
set_option linter.unusedSimpArgs false

abbrev zFl : Fld := ⟨⟨#[]⟩, ⟨#[]⟩, false⟩
/-- What an item does: the table's size, its fields, the field, whether there is one, the error. -/
def hSt (mx cp : Int) (L : List Fld) (x : Itm) : Int × List Fld × Fld × Bool × Int :=
  if x.kind = 4 then (if cp < x.index then (mx, L, zFl, false, 8) else (resM mx x.index L, resL mx x.index L, zFl, false, resE mx x.index L))
  else if (hNamed L x).2 = false then (mx, L, zFl, false, 6)
  else if x.kind = 0 then (mx, L, (hNamed L x).1, true, 0)
  else if x.kind = 1 then (mx, addL mx L ⟨(hNamed L x).1.name, x.value, false⟩, ⟨(hNamed L x).1.name, x.value, false⟩, true, 0)
  else (mx, L, ⟨(hNamed L x).1.name, x.value, decide (x.kind = 3)⟩, true, 0)
def StepPost (oa : Option Addr) (mx cp : Int) (L : List Fld) (x : Itm) (w : World) (e : Ending) (w' : World) : Prop :=
  ∃ ob nb cb, e = .returned (.tuple #[.agg #[.int .i64 (hSt mx cp L x).1, .slice ob nb cb, .int .i64 cp], .agg #[.string (hSt mx cp L x).2.2.1.name, .string (hSt mx cp L x).2.2.1.value, .bool (hSt mx cp L x).2.2.1.never], .bool (hSt mx cp L x).2.2.2.1, .int .i64 (hSt mx cp L x).2.2.2.2]) ∧
    (hSt mx cp L x).2.1.length = nb ∧ nb ≤ cb ∧ FieldsN w' ob (hSt mx cp L x).2.1 ∧ ((ob = oa ∧ (hSt mx cp L x).2.1 = L) ∨ ∀ a, ob = some a → w.heap.size ≤ a.block) ∧ Below w.heap.size w w'
theorem set3 {W : World} {g : Nat} {t : TypeId} {x0 x1 x2 : Value} (a0 a1 a2 : Value) (h : W.heap[g]? = some (.cells #[x0, x1, x2] t (0, 0))) :
    (((W.setCell ⟨g, 0, none⟩ a0).setCell ⟨g, 1, none⟩ a1).setCell ⟨g, 2, none⟩ a2).heap[g]? = some (.cells #[a0, a1, a2] t (0, 0)) := by
  have h0 := heap_setCell_same W g 0 _ _ a0 h
  have h1 := heap_setCell_same _ g 1 _ _ a1 h0
  exact heap_setCell_same _ g 2 _ _ a2 h1
theorem six {W : World} {g2 g3 : Nat} {t2 t3 : TypeId} {x0 x1 x2 y0 y1 y2 : Value} (a0 a1 a2 b0 b1 b2 : Value) (h2 : W.heap[g2]? = some (.cells #[x0, x1, x2] t2 (0, 0))) (h3 : W.heap[g3]? = some (.cells #[y0, y1, y2] t3 (0, 0))) (hne : g2 ≠ g3) :
    ((((((W.setCell ⟨g2, 0, none⟩ a0).setCell ⟨g2, 1, none⟩ a1).setCell ⟨g2, 2, none⟩ a2).setCell ⟨g3, 0, none⟩ b0).setCell ⟨g3, 1, none⟩ b1).setCell ⟨g3, 2, none⟩ b2).heap[g2]? = some (.cells #[a0, a1, a2] t2 (0, 0)) ∧
    ((((((W.setCell ⟨g2, 0, none⟩ a0).setCell ⟨g2, 1, none⟩ a1).setCell ⟨g2, 2, none⟩ a2).setCell ⟨g3, 0, none⟩ b0).setCell ⟨g3, 1, none⟩ b1).setCell ⟨g3, 2, none⟩ b2).heap[g3]? = some (.cells #[b0, b1, b2] t3 (0, 0)) := by
  have k2 := set3 a0 a1 a2 h2
  have k3 : (((W.setCell ⟨g2, 0, none⟩ a0).setCell ⟨g2, 1, none⟩ a1).setCell ⟨g2, 2, none⟩ a2).heap[g3]? = some (.cells #[y0, y1, y2] t3 (0, 0)) := by
    rw [heap_setCell_other _ ⟨g2, 2, none⟩ g3 _ (Ne.symm hne), heap_setCell_other _ ⟨g2, 1, none⟩ g3 _ (Ne.symm hne), heap_setCell_other _ ⟨g2, 0, none⟩ g3 _ (Ne.symm hne)]
    exact h3
  refine ⟨?_, set3 b0 b1 b2 k3⟩
  rw [heap_setCell_other _ ⟨g3, 2, none⟩ g2 _ hne, heap_setCell_other _ ⟨g3, 1, none⟩ g2 _ hne, heap_setCell_other _ ⟨g3, 0, none⟩ g2 _ hne]
  exact k2
theorem six_drew {W : World} {g2 g3 : Nat} {t2 t3 : TypeId} {x0 x1 x2 y0 y1 y2 : Value} (a0 a1 a2 b0 b1 b2 : Value) (h2 : W.heap[g2]? = some (.cells #[x0, x1, x2] t2 (0, 0))) (h3 : W.heap[g3]? = some (.cells #[y0, y1, y2] t3 (0, 0))) (hne : g2 ≠ g3) :
    ((((((W.setCell ⟨g2, 0, none⟩ a0).setCell ⟨g2, 1, none⟩ a1).setCell ⟨g2, 2, none⟩ a2).setCell ⟨g3, 0, none⟩ b0).setCell ⟨g3, 1, none⟩ b1).setCell ⟨g3, 2, none⟩ b2).drew.heap[g2]? = some (.cells #[a0, a1, a2] t2 (0, 0)) ∧ ((((((W.setCell ⟨g2, 0, none⟩ a0).setCell ⟨g2, 1, none⟩ a1).setCell ⟨g2, 2, none⟩ a2).setCell ⟨g3, 0, none⟩ b0).setCell ⟨g3, 1, none⟩ b1).setCell ⟨g3, 2, none⟩ b2).drew.heap[g3]? = some (.cells #[b0, b1, b2] t3 (0, 0)) := by
  rw [heap_drew]
  exact six a0 a1 a2 b0 b1 b2 h2 h3 hne
theorem six_below {B : Nat} {w W : World} (h : Below B w W) {g2 g3 : Nat} (hg2 : B ≤ g2) (hg3 : B ≤ g3) (a0 a1 a2 b0 b1 b2 : Value) :
    Below B w ((((((W.setCell ⟨g2, 0, none⟩ a0).setCell ⟨g2, 1, none⟩ a1).setCell ⟨g2, 2, none⟩ a2).setCell ⟨g3, 0, none⟩ b0).setCell ⟨g3, 1, none⟩ b1).setCell ⟨g3, 2, none⟩ b2) :=
  (((((h.setCell (p := ⟨g2, 0, none⟩) hg2 _).setCell (p := ⟨g2, 1, none⟩) hg2 _).setCell (p := ⟨g2, 2, none⟩) hg2 _).setCell (p := ⟨g3, 0, none⟩) hg3 _).setCell (p := ⟨g3, 1, none⟩) hg3 _).setCell (p := ⟨g3, 2, none⟩) hg3 _
/-- What stands at the function's start. -/
structure Hd (w W : World) (mx cp : Int) (v : Value) (k : Nat) (i : Int) (nm vl : ByteArray) : Prop where
  st : HRow W w.heap.size mx v cp
  it : IRow W (w.heap.size + 1) k i nm vl
  rs : W.heap[w.heap.size + 2]? = some (.cells #[.int .i64 0, .slice none 0 0, .int .i64 0] 45 (0, 0))
  rf : W.heap[w.heap.size + 3]? = some (.cells zF 25 (0, 0))
  below : Below w.heap.size w W
  lt : w.heap.size + 3 < W.heap.size
theorem Hd.step {w W W' : World} {mx cp : Int} {v : Value} {k : Nat} {i : Int} {nm vl : ByteArray} (h : Hd w W mx cp v k i nm vl) (hb : Below W.heap.size W W') : Hd w W' mx cp v k i nm vl :=
  ⟨h.st.step hb, h.it.step hb, (hb.block _ (by have := h.lt; omega)).trans h.rs, (hb.block _ h.lt).trans h.rf, bs_hd h.below hb, Nat.lt_of_lt_of_le h.lt hb.size⟩
theorem Hd.stepB {w W W' : World} {mx cp : Int} {v : Value} {k : Nat} {i : Int} {nm vl : ByteArray} (h : Hd w W mx cp v k i nm vl) (hb : Below (w.heap.size + 4) W W') : Hd w W' mx cp v k i nm vl :=
  ⟨(hb.block _ (by omega)).trans h.st, (hb.block _ (by omega)).trans h.it, (hb.block _ (by omega)).trans h.rs, (hb.block _ (by omega)).trans h.rf, h.below.trans (hb.mono (by omega)), Nat.lt_of_lt_of_le h.lt hb.size⟩
abbrev hw0 (w : World) (mx cp : Int) (v : Value) (k : Nat) (i : Int) (nm vl : ByteArray) : World := (((w.alloc (.cells #[.int .i64 mx, v, .int .i64 cp] 45)).alloc (.cells #[.int .u8 (k : Int), .int .i64 i, .string nm, .string vl] 49)).alloc (.cells #[.int .i64 0, .slice none 0 0, .int .i64 0] 45)).alloc (.cells zF 25)
theorem Hd.new (w : World) (mx cp : Int) (v : Value) (k : Nat) (i : Int) (nm vl : ByteArray) : Hd w (hw0 w mx cp v k i nm vl) mx cp v k i nm vl := by
  have a1 : ∀ W : World, ∀ o, Below W.heap.size W (W.alloc o) := fun W o => (Below.refl _ W).alloc (Nat.le_refl _) o
  refine ⟨(((HRow.new w mx cp v).step (a1 _ _)).step (a1 _ _)).step (a1 _ _), ?_, ?_, ?_, ?_, by simp⟩
  · have h1 : IRow ((w.alloc (.cells #[.int .i64 mx, v, .int .i64 cp] 45)).alloc (.cells #[.int .u8 (k : Int), .int .i64 i, .string nm, .string vl] 49)) (w.heap.size + 1) k i nm vl := by
      have := heap_alloc_new (w.alloc (.cells #[.int .i64 mx, v, .int .i64 cp] 45)) (.cells #[.int .u8 (k : Int), .int .i64 i, .string nm, .string vl] 49)
      simpa [IRow] using this
    exact (h1.step (a1 _ _)).step (a1 _ _)
  · have := heap_alloc_new ((w.alloc (.cells #[.int .i64 mx, v, .int .i64 cp] 45)).alloc (.cells #[.int .u8 (k : Int), .int .i64 i, .string nm, .string vl] 49)) (.cells #[.int .i64 0, .slice none 0 0, .int .i64 0] 45)
    have h2 : ((((w.alloc (.cells #[.int .i64 mx, v, .int .i64 cp] 45)).alloc (.cells #[.int .u8 (k : Int), .int .i64 i, .string nm, .string vl] 49)).alloc (.cells #[.int .i64 0, .slice none 0 0, .int .i64 0] 45)).heap[w.heap.size + 2]? = some (.cells #[.int .i64 0, .slice none 0 0, .int .i64 0] 45 (0, 0))) := by simpa using this
    exact ((a1 _ _).block (w.heap.size + 2) (by simp)).trans h2
  · have := heap_alloc_new (((w.alloc (.cells #[.int .i64 mx, v, .int .i64 cp] 45)).alloc (.cells #[.int .u8 (k : Int), .int .i64 i, .string nm, .string vl] 49)).alloc (.cells #[.int .i64 0, .slice none 0 0, .int .i64 0] 45)) (.cells zF 25)
    simpa using this
  · exact bs_hd (bs_hd (bs_hd (a1 w _) (a1 _ _)) (a1 _ _)) (a1 _ _)
end Go.Proofs.Yteceinojmdgmeaa


/- hdec: step, an item that sets the size. -/
namespace Go.Proofs.Yteceinojmdgmeaa
open Go.RowKit
set_option linter.unusedVariables false
set_option linter.unusedSimpArgs false

theorem FieldsN.setRow {W : World} {ob : Option Addr} {L : List Fld} {g : Nat} (h : FieldsN W ob L) (hne : L ≠ [] → ∀ a, ob = some a → a.block ≠ g) (cs : Array Value) : FieldsN (W.setRow g cs) ob L := by
  intro i f hf
  obtain ⟨b, o, ha, h0, h1, h2⟩ := h i f hf
  have e : (W.setRow g cs).heap[b]? = W.heap[b]? := setRow_other W g b cs (hne (fun h => by rw [h] at hf; cases hf) _ ha)
  exact ⟨b, o, ha, (cell_eq e).trans h0, (cell_eq e).trans h1, (cell_eq e).trans h2⟩
set_option maxRecDepth 100000 in
set_option maxHeartbeats 4000000 in
theorem step_four (mx cp : Int) (oa : Option Addr) (n cap : Nat) (L : List Fld) (hn : L.length = n) (hnc : n ≤ cap) (hl : ∀ f ∈ L, lightF f = true) (hn30 : n ≤ 1000) (i : Int) (nm vl : ByteArray) (w : World) (hf : FieldsN w oa L) :
    Calls Try.prog 39 #[.agg #[.int .i64 mx, .slice oa n cap, .int .i64 cp], .agg #[.int .u8 (4 : Int), .int .i64 i, .string nm, .string vl]] w (StepPost oa mx cp L ⟨4, i, nm, vl⟩ w) := by
  have HH := Lib.hid (Hd.new w mx cp (.slice oa n cap) 4 i nm vl)
  have HFW := Lib.hid (show ∀ W, Below w.heap.size w W → FieldsN W oa L from fun W hW => hf.below hW)
  have HRZ := Lib.hid (fun W (hW : Below w.heap.size w W) => resize_any mx i oa n cap L hn hl hn30 W (hf.below hW))
  have HN := Lib.hid hn
  unfold StepPost
  have HS : Hid (hSt mx cp L ⟨4, i, nm, vl⟩ = if cp < i then (mx, L, zFl, false, 8) else (resM mx i L, resL mx i L, zFl, false, resE mx i L)) := Lib.hid (by unfold hSt; rw [if_pos rfl])
  change Hid (Hd w ((((w.alloc (.cells #[.int .i64 mx, .slice oa n cap, .int .i64 cp] 45)).alloc (.cells #[.int .u8 (4 : Int), .int .i64 i, .string nm, .string vl] 49)).alloc (.cells #[.int .i64 0, .slice none 0 0, .int .i64 0] 45)).alloc (.cells #[.string ⟨#[]⟩, .string ⟨#[]⟩, .bool false] 25)) mx cp (.slice oa n cap) 4 i nm vl) at HH
  unfold ResPost at HRZ
  clear hf hn
  by_cases hc : cp < i
  · have q : decide (cp < i) = true := decide_eq_true hc
    rw [if_pos hc] at HS
    rw [HS.out]
    dsimp only
    clear HS hc
    go_enter Try.func39, Try.ntmps39
    go_upto_region 1 with fail
    generalize ((((w.alloc (.cells #[.int .i64 mx, .slice oa n cap, .int .i64 cp] 45)).alloc (.cells #[.int .u8 (4 : Int), .int .i64 i, .string nm, .string vl] 49)).alloc (.cells #[.int .i64 0, .slice none 0 0, .int .i64 0] 45)).alloc (.cells #[.string ⟨#[]⟩, .string ⟨#[]⟩, .bool false] 25)) = w1 at HH ⊢
    have c0 := HH.out.st.c0
    have c1 := HH.out.st.c1
    have c2 := HH.out.st.c2
    have x0 := HH.out.it.c0
    have x1 := HH.out.it.c1
    have HF2 : Hid ((w1.setRow (w.heap.size + 2) #[.int .i64 mx, .slice oa n cap, .int .i64 cp]).heap[w.heap.size + 3]? = some (.cells zF 25 (0, 0))) := Lib.hid ((setRow_other _ _ _ _ (by omega)).trans HH.out.rf)
    have HR2 := Lib.hid (setRow_heap _ _ _ #[.int .i64 mx, .slice oa n cap, .int .i64 cp] _ _ HH.out.rs)
    go_wp2_with (first | (refine wpList_store_row rfl _ _ _ rfl (w.heap.size + 2) #[.int .i64 mx, .slice oa n cap, .int .i64 cp] rfl rfl _ _ HH.out.rs (by kernel_rfl) rfl (by kernel_rfl) ?_) | (refine wpList_store_row rfl _ _ _ rfl (w.heap.size + 3) #[.string ⟨#[]⟩, .string ⟨#[]⟩, .bool false] rfl rfl _ _ HF2.out (by kernel_rfl) rfl (by kernel_rfl) ?_))
    exact bodyPost_ret (v := .tuple #[.agg #[.int .i64 mx, .slice oa n cap, .int .i64 cp], .agg #[.string ⟨#[]⟩, .string ⟨#[]⟩, .bool false], .bool false, .int .i64 (8)]) (res_cell22 rfl _ _ (w.heap.size + 2) (w.heap.size + 3) _ _ _ _ (0, 0) (0, 0) _ _ rfl ((setRow_other _ _ _ _ (by omega)).trans HR2.out) Try.underlying45 rfl (by kernel_rfl) rfl (setRow_heap _ _ _ _ _ _ HF2.out) Try.underlying25 rfl (by kernel_rfl) _ _ rfl rfl) rfl ⟨oa, n, cap, rfl, HN.out, hnc, HFW.out _ (below_row (below_row HH.out.below (by omega) _) (by omega) _), .inl ⟨rfl, by trivial⟩, below_row (below_row HH.out.below (by omega) _) (by omega) _⟩
  · have q : decide (cp < i) = false := decide_eq_false hc
    rw [if_neg hc] at HS
    rw [HS.out]
    dsimp only
    clear HS hc
    generalize resM mx i L = mr at HRZ ⊢
    generalize resL mx i L = lr at HRZ ⊢
    generalize resE mx i L = er at HRZ ⊢
    go_enter Try.func39, Try.ntmps39
    go_upto_region 1 with fail
    generalize ((((w.alloc (.cells #[.int .i64 mx, .slice oa n cap, .int .i64 cp] 45)).alloc (.cells #[.int .u8 (4 : Int), .int .i64 i, .string nm, .string vl] 49)).alloc (.cells #[.int .i64 0, .slice none 0 0, .int .i64 0] 45)).alloc (.cells #[.string ⟨#[]⟩, .string ⟨#[]⟩, .bool false] 25)) = w1 at HH ⊢
    have c0 := HH.out.st.c0
    have c1 := HH.out.st.c1
    have c2 := HH.out.st.c2
    have x0 := HH.out.it.c0
    have x1 := HH.out.it.c1
    go_upto_region 5 with (first | (go_at_call 61; refine (HRZ.out _ HH.out.below).mono ?_; rintro e w2 ⟨v, rfl, ho, hb⟩; obtain ⟨ob, cb, hv, hf5, hcb, hx5⟩ := ho.form; have HX5 := Lib.hid (show ∀ a, ob = some a → w.heap.size + 3 < a.block from fun a ha => by have h1 := (hx5.2 a ha).1; have h2 := HH.out.lt; omega); replace HH := Lib.hid (HH.out.step hb); generalize hnb : lr.length = nb at hv hcb; obtain rfl := hv; have HV5 := Lib.hid (And.intro hnb (And.intro hcb hf5)); clear hnb hcb hf5 hx5 ho hb))
    have HTR := Lib.hid (TRow.new w2 mr (.slice ob nb cb))
    have hbt := (Below.refl w2.heap.size w2).alloc (Nat.le_refl _) (.cells #[.int .i64 mr, .slice ob nb cb] 28)
    have HV6 := Lib.hid (HV5.out.2.2.below hbt)
    replace HH := Lib.hid (HH.out.step hbt)
    clear hbt
    generalize w2.alloc (.cells #[.int .i64 mr, .slice ob nb cb] 28) = w3 at HTR HV6 HH ⊢
    clear c0 c1 c2 x0 x1
    have c2 := HH.out.st.c2
    have t0 := HTR.out.c0
    have t1 := HTR.out.c1
    have HF2 : Hid ((w3.setRow (w.heap.size + 2) #[.int .i64 mr, .slice ob nb cb, .int .i64 cp]).heap[w.heap.size + 3]? = some (.cells zF 25 (0, 0))) := Lib.hid ((setRow_other _ _ _ _ (by omega)).trans HH.out.rf)
    have HR2 := Lib.hid (setRow_heap _ _ _ #[.int .i64 mr, .slice ob nb cb, .int .i64 cp] _ _ HH.out.rs)
    go_wp2_with (first | (refine wpList_store_row rfl _ _ _ rfl (w.heap.size + 2) #[.int .i64 mr, .slice ob nb cb, .int .i64 cp] rfl rfl _ _ HH.out.rs (by kernel_rfl) rfl (by kernel_rfl) ?_) | (refine wpList_store_row rfl _ _ _ rfl (w.heap.size + 3) #[.string ⟨#[]⟩, .string ⟨#[]⟩, .bool false] rfl rfl _ _ HF2.out (by kernel_rfl) rfl (by kernel_rfl) ?_))
    exact bodyPost_ret (v := .tuple #[.agg #[.int .i64 mr, .slice ob nb cb, .int .i64 cp], .agg #[.string ⟨#[]⟩, .string ⟨#[]⟩, .bool false], .bool false, .int .i64 (er)]) (res_cell22 rfl _ _ (w.heap.size + 2) (w.heap.size + 3) _ _ _ _ (0, 0) (0, 0) _ _ rfl ((setRow_other _ _ _ _ (by omega)).trans HR2.out) Try.underlying45 rfl (by kernel_rfl) rfl (setRow_heap _ _ _ _ _ _ HF2.out) Try.underlying25 rfl (by kernel_rfl) _ _ rfl rfl) rfl ⟨ob, nb, cb, rfl, HV5.out.1, HV5.out.2.1, (HV6.out.setRow (fun _ a ha => by have := HX5.out a ha; omega) _).setRow (fun _ a ha => by have := HX5.out a ha; omega) _, .inr (fun a ha => by have := HX5.out a ha; omega), below_row (below_row HH.out.below (by omega) _) (by omega) _⟩
end Go.Proofs.Yteceinojmdgmeaa

