/- The reader: its row, its map; reader.pseudo. -/
import Derived.Test.YtecmccihldjicaaDoorReqD
import Derived.Laws.Rows
import Derived.Deep.DeepCutAuto
import Derived.Deep.RegionWith
namespace Go.Proofs.YtecmccihldjicaaDoor
open Go.RowKit Go.Maps
set_option linter.unusedVariables false
set_option linter.unusedSimpArgs false

structure Rd where
  m : ByteArray
  s : ByteArray
  p : ByteArray
  h : ByteArray
  len : Int
  rank : Int
  host : ByteArray
def RdAt (W : World) (q b : Nat) (r : Rd) : Prop := W.heap[q]? = some (.cells #[.string r.m, .string r.s, .string r.p, .string r.h, .int .i64 r.len, .int .i64 r.rank, .map (some b), .string r.host] 48 (0, 0))
theorem RdAt.cells {W : World} {q b : Nat} {r : Rd} (h : RdAt W q b r) : (W.cell? ⟨q, 0, none⟩ = some (.string r.m) ∧ W.cell? ⟨q, 1, none⟩ = some (.string r.s) ∧ W.cell? ⟨q, 2, none⟩ = some (.string r.p) ∧ W.cell? ⟨q, 3, none⟩ = some (.string r.h)) ∧ (W.cell? ⟨q, 4, none⟩ = some (.int .i64 r.len) ∧ W.cell? ⟨q, 5, none⟩ = some (.int .i64 r.rank) ∧ W.cell? ⟨q, 6, none⟩ = some (.map (some b)) ∧ W.cell? ⟨q, 7, none⟩ = some (.string r.host)) :=
  ⟨⟨cell_of_row _ _ _ _ _ _ h, cell_of_row _ _ _ _ _ _ h, cell_of_row _ _ _ _ _ _ h, cell_of_row _ _ _ _ _ _ h⟩, cell_of_row _ _ _ _ _ _ h, cell_of_row _ _ _ _ _ _ h, cell_of_row _ _ _ _ _ _ h, cell_of_row _ _ _ _ _ _ h⟩
theorem RdAt.z {W : World} {q b : Nat} {r : Rd} (h : RdAt W q b r) (j : Nat) : W.frozen? ⟨q, j, none⟩ = false := frozen_of_row _ _ _ _ _ h
theorem RdAt.lt {W : World} {q b : Nat} {r : Rd} (h : RdAt W q b r) : q < W.heap.size := World.block_lt_of_cell? W ⟨q, 0, none⟩ h.cells.1.1
theorem RdAt.keep {W W' : World} {q b : Nat} {r : Rd} (h : RdAt W q b r) (hb : W'.heap[q]? = W.heap[q]?) : RdAt W' q b r := hb.trans h
theorem RdAt.step {W W' : World} {q b : Nat} {r : Rd} (h : RdAt W q b r) (hb : Below W.heap.size W W') : RdAt W' q b r := h.keep (hb.block q h.lt)
theorem RdAt.setM {W : World} {q b : Nat} {r : Rd} (h : RdAt W q b r) (x : ByteArray) : RdAt (W.setCell ⟨q, 0, none⟩ (.string x)) q b { r with m := x } := heap_setCell_same W q 0 _ _ _ h
theorem RdAt.setS {W : World} {q b : Nat} {r : Rd} (h : RdAt W q b r) (x : ByteArray) : RdAt (W.setCell ⟨q, 1, none⟩ (.string x)) q b { r with s := x } := heap_setCell_same W q 1 _ _ _ h
theorem RdAt.setP {W : World} {q b : Nat} {r : Rd} (h : RdAt W q b r) (x : ByteArray) : RdAt (W.setCell ⟨q, 2, none⟩ (.string x)) q b { r with p := x } := heap_setCell_same W q 2 _ _ _ h
theorem RdAt.setH {W : World} {q b : Nat} {r : Rd} (h : RdAt W q b r) (x : ByteArray) : RdAt (W.setCell ⟨q, 3, none⟩ (.string x)) q b { r with h := x } := heap_setCell_same W q 3 _ _ _ h
theorem RdAt.setLen {W : World} {q b : Nat} {r : Rd} (h : RdAt W q b r) (x : Int) : RdAt (W.setCell ⟨q, 4, none⟩ (.int .i64 x)) q b { r with len := x } := heap_setCell_same W q 4 _ _ _ h
theorem RdAt.setRank {W : World} {q b : Nat} {r : Rd} (h : RdAt W q b r) (x : Int) : RdAt (W.setCell ⟨q, 5, none⟩ (.int .i64 x)) q b { r with rank := x } := heap_setCell_same W q 5 _ _ _ h
theorem RdAt.setHost {W : World} {q b : Nat} {r : Rd} (h : RdAt W q b r) (x : ByteArray) : RdAt (W.setCell ⟨q, 7, none⟩ (.string x)) q b { r with host := x } := heap_setCell_same W q 7 _ _ _ h
theorem SeenM.set {W : World} {b : Nat} {L : List Fld} (h : SeenM W b L) {q : Nat} (hq : q ≠ b) (j : Nat) (x : Value) : SeenM (W.setCell ⟨q, j, none⟩ x) b L := h.keep (Below.heap_setCell _ _ _ _ (fun e => hq (by simpa using e.symm)))
/-- The look-up's own run. -/
theorem SeenM.look {w : World} {b : Nat} {L : List Fld} (h : SeenM w b L) (s : ByteArray) (hs : s.size ≤ maxLen) : (Instr.lookup 46 (.map (some b)) (.string s) false).run Tryd.prog w = .ok (.int .i64 (cntN L s.data.toList : Nat)) w := by
  obtain ⟨D, h1, h2, h3⟩ := h
  obtain ⟨c, hrun, hat, hwc⟩ := h2.lookup_int (string_keyed Tryd.underlying9) Tryd.underlying46 Tryd.underlying3 (zero_int _) (keyB s hs)
  rw [h3] at hat
  injection hat with hat
  injection hat with _ hat
  rw [hat]
  exact hrun
/-- The store's own run. -/
theorem SeenM.put {w : World} {b : Nat} {L : List Fld} (h : SeenM w b L) (hL : L.length ≤ 1000000) (f : Fld) (hs : f.name.size ≤ maxLen) :
    ∃ w', (Instr.mapUpdate 46 (.map (some b)) (.string f.name) (.int .i64 ((cntN L f.name.data.toList : Nat) + 1 : Int))).run Tryd.prog w = .ok () w' ∧ SeenM w' b (L ++ [f]) ∧ w.grownBy w' (some b) := by
  obtain ⟨D, h1, h2, h3⟩ := h
  have hle := cntN_le L f.name.data.toList
  have hwf : (Lit.int .i64 ((cntN L f.name.data.toList : Nat) + 1 : Int)).wf = true := by
    simp only [Lit.wf, Bool.and_eq_true, decide_eq_true_eq]
    have e1 : IntKind.i64.min = -9223372036854775808 := by decide
    have e2 : IntKind.i64.max = 9223372036854775807 := by decide
    rw [e1, e2]
    omega
  obtain ⟨w', hrun, hown, hg⟩ := h2.update (string_keyed Tryd.underlying9) Tryd.underlying46 (by unfold maxLen; omega) (keyB f.name hs) (plainElem_int Tryd.underlying3 hwf)
  refine ⟨w', hrun, ⟨_, h1.put _ _, by rw [List.length_append]; exact hown, fun l => ?_⟩, hg⟩
  rw [cntN_snoc]
  by_cases hl : f.name.data.toList = l
  · subst hl
    rw [atKey_put_same h1 (by trivial), if_pos rfl]
    simp
  · rw [atKey_put_other (by intro e; injection e with e; exact hl e.symm), h3, if_neg hl]
    simp
def nMethod : List UInt8 := [58, 109, 101, 116, 104, 111, 100]
def nScheme : List UInt8 := [58, 115, 99, 104, 101, 109, 101]
def nPath : List UInt8 := [58, 112, 97, 116, 104]
def nAuth : List UInt8 := [58, 97, 117, 116, 104, 111, 114, 105, 116, 121]
def psSet (r : Rd) (f : Fld) : Rd :=
  if f.name.data.toList = nMethod then { r with m := f.value } else if f.name.data.toList = nScheme then { r with s := f.value } else if f.name.data.toList = nPath then { r with p := f.value } else if f.name.data.toList = nAuth then { r with h := f.value } else r
def psName (l : List UInt8) : Bool := decide (l = nMethod) || decide (l = nScheme) || decide (l = nPath) || decide (l = nAuth)
/-- Is a pseudo field right, behind those of L? -/
def psOk (L : List Fld) (f : Fld) : Bool := psName f.name.data.toList && (decide (cntN L f.name.data.toList = 0) && valS f.value.data.toList)
def PsPost (q b : Nat) (r : Rd) (L : List Fld) (f : Fld) (B : Nat) (W : World) (e : Ending) (w' : World) : Prop := e = .returned (.bool (psOk L f)) ∧ RdAt w' q b (psSet r f) ∧ SeenM w' b (L ++ [f]) ∧ Below B W w'
set_option maxRecDepth 100000 in
set_option maxHeartbeats 4000000 in
theorem pseudo_other (q b : Nat) (hqb : q ≠ b) (r : Rd) (L : List Fld) (hL : L.length ≤ 1000) (f : Fld) (hl : lightF f = true) (B : Nat) (W : World) (hq : B ≤ q) (hb : B ≤ b) (h : RdAt W q b r) (hs : SeenM W b L) (hn : psName f.name.data.toList = false) :
    Calls Tryd.prog 24 #[.pointer (some ⟨q, 0, none⟩), f.val] W (PsPost q b r L f B W) := by
  obtain ⟨hl1, hl2⟩ := lightF_max hl
  have HB0 := Lib.hid ((Below.refl B W).alloc (Nat.le_trans hq (Nat.le_of_lt h.lt)) (.cells #[.string f.name, .string f.value, .bool f.never] 42))
  have H0 := Lib.hid ((Below.refl W.heap.size W).alloc (Nat.le_refl _) (.cells #[.string f.name, .string f.value, .bool f.never] 42))
  have HBOX := Lib.hid (heap_alloc_new W (.cells #[.string f.name, .string f.value, .bool f.never] 42))
  have hlt0 := h.lt
  have hlt1 := hs.lt
  have hr0 := h.step H0.out
  have hs0 : SeenM (W.alloc (.cells #[.string f.name, .string f.value, .bool f.never] 42)).drew b L := hs.below H0.out.drew
  have HLK := Lib.hid (hs0.look f.name (by unfold maxLen; omega))
  obtain ⟨w2, hput, hs2, hg2⟩ := hs0.put (by omega) f (by unfold maxLen; omega)
  have hr2 : RdAt w2 q b r := hr0.keep (hg2.block q (by show q < (W.alloc _).heap.size; simp; omega) (by simpa using hqb))
  have hbox2 := (hg2.block W.heap.size (by show W.heap.size < (W.alloc _).heap.size; simp) (by simp; omega)).trans HBOX.out
  have HB2 := Lib.hid (HB0.out.drew.grown hg2 (by show B ≤ (W.alloc _).heap.size; simp; omega) (fun k hk => by cases hk; exact hb))
  have HR2 := Lib.hid hr2
  have HS2 := Lib.hid hs2
  have HPUT := Lib.hid hput
  have HPO : Hid (psOk L f = false) := Lib.hid (by unfold psOk; rw [hn]; rfl)
  have hpn := hn
  simp only [psName, Bool.or_eq_false_iff, decide_eq_false_iff_not] at hn
  obtain ⟨⟨⟨n1, n2⟩, n3⟩, n4⟩ := hn
  have HPS : Hid (psSet r f = r) := Lib.hid (by unfold psSet; rw [if_neg n1, if_neg n2, if_neg n3, if_neg n4])
  have m1 := ba_ne _ _ n1
  have m2 := ba_ne _ _ n2
  have m3 := ba_ne _ _ n3
  have m4 := ba_ne _ _ n4
  unfold nMethod at m1
  unfold nScheme at m2
  unfold nPath at m3
  unfold nAuth at m4
  clear n1 n2 n3 n4 hpn hput hs2 hr2 hg2 hs0
  have hcle := cntN_le L f.name.data.toList
  have hw1 : IntKind.i64.wrap (((cntN L f.name.data.toList : Nat) : Int) + 1) = ((cntN L f.name.data.toList : Nat) : Int) + 1 := IntWalk.i64_in _ (by omega)
  have hlook := HLK.out
  have hput := HPUT.out
  unfold PsPost
  rw [HPO.out, HPS.out]
  generalize cntN L f.name.data.toList = c at hlook hput hw1 hcle
  obtain ⟨nm, vl, nv⟩ := f
  unfold Fld.val
  simp only at hlook hput hbox2 HBOX hl1 hl2 m1 m2 m3 m4 HB0 HB2 ⊢
  have hbx := cell_of_row _ _ 0 _ _ _ HBOX.out
  have hby := cell_of_row _ _ 0 _ _ _ hbox2
  have hbz := cell_of_row _ _ 1 _ _ _ hbox2
  obtain ⟨⟨a0, a1, a2, a3⟩, a4, a5, a6, a7⟩ := hr0.cells
  obtain ⟨⟨b0, b1, b2, b3⟩, b4, b5, b6, b7⟩ := HR2.out.cells
  clear hr0 hbox2 h hs
  go_enter Tryd.func24, Tryd.ntmps24
  go_upto_region 1 with fail
  go_region
  go_wp2_with fail
  go_ret
  exact ⟨rfl, HR2.out, HS2.out, HB2.out⟩
end Go.Proofs.YtecmccihldjicaaDoor
