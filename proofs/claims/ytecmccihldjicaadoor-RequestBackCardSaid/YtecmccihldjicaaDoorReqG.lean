/- reader.plain. -/
import Derived.Test.YtecmccihldjicaaDoorReqE
namespace Go.Proofs.YtecmccihldjicaaDoor
open Go.RowKit Go.Maps
set_option linter.unusedVariables false
set_option linter.unusedSimpArgs false

abbrev boxF (nm vl : ByteArray) (nv : Bool) : Obj := .cells #[.string nm, .string vl, .bool nv] 42
structure Mid (q b : Nat) (r : Rd) (L : List Fld) (nm vl : ByteArray) (nv : Bool) (c B : Nat) (W w1 w2 : World) : Prop where
  look : (Instr.lookup 46 (.map (some b)) (.string nm) false).run Tryd.prog w1.drew = .ok (.int .i64 (c : Nat)) w1.drew
  put : (Instr.mapUpdate 46 (.map (some b)) (.string nm) (.int .i64 ((c : Nat) + 1 : Int))).run Tryd.prog w1.drew = .ok () w2
  look2 : (Instr.lookup 46 (.map (some b)) (.string nm) false).run Tryd.prog w2.drew = .ok (.int .i64 ((c : Nat) + 1 : Int)) w2.drew
  rd1 : RdAt w1 q b r
  rd2 : RdAt w2 q b r
  seen : SeenM w2 b (L ++ [⟨nm, vl, nv⟩])
  box1 : w1.heap[W.heap.size]? = some (boxF nm vl nv)
  box2 : w2.heap[W.heap.size]? = some (boxF nm vl nv)
  below : Below B W w2
  size : B ≤ w2.heap.size
  lt : W.heap.size < w2.heap.size
theorem mid (q b : Nat) (hqb : q ≠ b) (r : Rd) (L : List Fld) (hL : L.length ≤ 1000) (nm vl : ByteArray) (nv : Bool) (hl1 : nm.size ≤ 200) (B : Nat) (W : World) (hq : B ≤ q) (hb : B ≤ b) (h : RdAt W q b r) (hs : SeenM W b L) (c : Nat) (hc : cntN L nm.data.toList = c)
    (w1 : World) (hb1 : Below (W.alloc (boxF nm vl nv)).heap.size (W.alloc (boxF nm vl nv)) w1) : ∃ w2, Mid q b r L nm vl nv c B W w1 w2 := by
  have hlt0 := h.lt
  have hlt1 := hs.lt
  have hz : (W.alloc (boxF nm vl nv)).heap.size = W.heap.size + 1 := by simp
  have b0 : Below W.heap.size W (W.alloc (boxF nm vl nv)) := (Below.refl _ W).alloc (Nat.le_refl _) _
  have b1 : Below W.heap.size W w1 := b0.trans (hb1.mono (by omega))
  have hsz := hb1.size
  have r1 := h.step b1
  have s1 : SeenM w1.drew b L := hs.below b1.drew
  have lk := s1.look nm (by unfold maxLen; omega)
  obtain ⟨w2, hput, s2, hg2⟩ := s1.put (by omega) ⟨nm, vl, nv⟩ (by show nm.size ≤ maxLen; unfold maxLen; omega)
  have hgs := hg2.size
  have hgs' : w1.heap.size ≤ w2.heap.size := hgs
  have r2 : RdAt w2 q b r := r1.keep (hg2.block q (by show q < w1.heap.size; omega) (by simpa using hqb))
  have x1 : w1.heap[W.heap.size]? = some (boxF nm vl nv) := (hb1.block _ (by omega)).trans (heap_alloc_new W _)
  have x2 : w2.heap[W.heap.size]? = some (boxF nm vl nv) := (hg2.block W.heap.size (by show W.heap.size < w1.heap.size; omega) (by simp; omega)).trans x1
  have B2 : Below B W w2 := ((b1.mono (by omega)).drew.grown hg2 (by show B ≤ w1.heap.size; omega) (fun k hk => by cases hk; exact hb))
  have lk2 := SeenM.look (w := w2.drew) s2 nm (by unfold maxLen; omega)
  have e2 : cntN (L ++ [(⟨nm, vl, nv⟩ : Fld)]) nm.data.toList = cntN L nm.data.toList + 1 := by rw [cntN_snoc, if_pos rfl]
  rw [e2, hc] at lk2
  rw [hc] at lk
  simp only [hc] at hput
  refine ⟨w2, lk, hput, ?_, r1, r2, s2, x1, x2, B2, by omega, by omega⟩
  rw [lk2]
  simp
def nHost : List UInt8 := [104, 111, 115, 116]
def nPrio : List UInt8 := [112, 114, 105, 111, 114, 105, 116, 121]
def nLen : List UInt8 := [99, 111, 110, 116, 101, 110, 116, 45, 108, 101, 110, 103, 116, 104]
def plSet (r : Rd) (L : List Fld) (f : Fld) : Rd :=
  if f.name.data.toList = nHost then (if cntN L f.name.data.toList = 0 then { r with host := f.value } else r)
  else if f.name.data.toList = nPrio then (if cntN L f.name.data.toList = 0 then { r with rank := rankS f.value.data.toList } else r)
  else if f.name.data.toList = nLen then { r with len := numI f.value.data.toList } else r
/-- Is a field that is no pseudo one right, behind those of L? -/
def plOk (r : Rd) (L : List Fld) (f : Fld) : Bool := plainB f true && (if f.name.data.toList = nLen then numOk f.value.data.toList && (decide (cntN L f.name.data.toList = 0) || decide (numI f.value.data.toList = r.len)) else true)
def PlPost (q b : Nat) (r : Rd) (L : List Fld) (f : Fld) (B : Nat) (W : World) (e : Ending) (w' : World) : Prop := e = .returned (.bool (plOk r L f)) ∧ (plOk r L f = true → RdAt w' q b (plSet r L f) ∧ SeenM w' b (L ++ [f])) ∧ Below B W w'
set_option maxRecDepth 100000 in
set_option maxHeartbeats 4000000 in
theorem rplain_no (q b : Nat) (r : Rd) (L : List Fld) (f : Fld) (hl : lightF f = true) (B : Nat) (W : World) (hBW : B ≤ W.heap.size) (hp : plainB f true = false) :
    Calls Tryd.prog 25 #[.pointer (some ⟨q, 0, none⟩), f.val] W (PlPost q b r L f B W) := by
  have HP := Lib.hid (fun W' => plain_any f true hl W')
  have HB0 := Lib.hid ((Below.refl B W).alloc hBW (boxF f.name f.value f.never))
  have HPO : Hid (plOk r L f = false) := Lib.hid (by unfold plOk; rw [hp]; rfl)
  rw [hp] at HP
  unfold PlPost
  rw [HPO.out]
  obtain ⟨nm, vl, nv⟩ := f
  unfold Fld.val at HP ⊢
  simp only at HP HB0 ⊢
  have HSZ : Hid (B ≤ (W.alloc (boxF nm vl nv)).heap.size) := Lib.hid (by simp; omega)
  go_enter Tryd.func25, Tryd.ntmps25
  go_wp2_with (first | (go_at_call 34; with_reducible refine (HP.out _).mono ?_; rintro e w1 ⟨rfl, hb1⟩; have HB1 := Lib.hid (HB0.out.trans (hb1.mono HSZ.out)); clear hb1))
  go_ret
  exact ⟨rfl, (fun h => nomatch h), HB1.out⟩
set_option maxRecDepth 100000 in
set_option maxHeartbeats 4000000 in
theorem rplain_else (q b : Nat) (hqb : q ≠ b) (r : Rd) (L : List Fld) (hL : L.length ≤ 1000) (f : Fld) (hl : lightF f = true) (B : Nat) (W : World) (hq : B ≤ q) (hb : B ≤ b) (h : RdAt W q b r) (hs : SeenM W b L) (hp : plainB f true = true)
    (n1 : ¬ f.name.data.toList = nHost) (n2 : ¬ f.name.data.toList = nPrio) (n3 : ¬ f.name.data.toList = nLen) :
    Calls Tryd.prog 25 #[.pointer (some ⟨q, 0, none⟩), f.val] W (PlPost q b r L f B W) := by
  obtain ⟨hl1, hl2⟩ := lightF_max hl
  have HP := Lib.hid (fun W' => plain_any f true hl W')
  have HPO : Hid (plOk r L f = true) := Lib.hid (by unfold plOk; rw [hp, if_neg n3]; rfl)
  have HPS : Hid (plSet r L f = r) := Lib.hid (by unfold plSet; rw [if_neg n1, if_neg n2, if_neg n3])
  rw [hp] at HP
  have m1 := ba_ne _ _ n1
  have m2 := ba_ne _ _ n2
  have m3 := ba_ne _ _ n3
  unfold nHost at m1
  unfold nPrio at m2
  unfold nLen at m3
  unfold PlPost
  rw [HPO.out, HPS.out]
  obtain ⟨nm, vl, nv⟩ := f
  unfold Fld.val at HP ⊢
  simp only at HP hl1 hl2 m1 m2 m3 ⊢
  obtain ⟨c, hc⟩ : ∃ c, cntN L nm.data.toList = c := ⟨_, rfl⟩
  have hcle := cntN_le L nm.data.toList
  rw [hc] at hcle
  have hw1 : IntKind.i64.wrap ((c : Int) + 1) = (c : Int) + 1 := IntWalk.i64_in _ (by omega)
  have HM := Lib.hid (mid q b hqb r L hL nm vl nv hl1 B W hq hb h hs c hc)
  clear n1 n2 n3 h hs hc
  go_enter Tryd.func25, Tryd.ntmps25
  go_upto_region 3 with (first | (go_at_call 34; with_reducible refine (HP.out _).mono ?_; rintro e w1 ⟨rfl, hb1⟩))
  obtain ⟨w2, M⟩ := HM.out w1 hb1
  have k1 := M.look
  have k2 := M.put
  have k3 := M.look2
  have hbx := cell_of_row _ _ 0 _ _ _ M.box1
  have hby := cell_of_row _ _ 0 _ _ _ M.box2
  have hbz := cell_of_row _ _ 1 _ _ _ M.box2
  obtain ⟨⟨a0, a1, a2, a3⟩, a4, a5, a6, a7⟩ := M.rd1.cells
  obtain ⟨⟨b0, b1, b2, b3⟩, b4, b5, b6, b7⟩ := M.rd2.cells
  have HMM := Lib.hid M
  clear M hb1
  go_region
  go_upto_region 4 with fail
  go_region
  all_goals
    go_wp2_with fail
    go_ret
    exact ⟨rfl, fun _ => ⟨HMM.out.rd2, HMM.out.seen⟩, HMM.out.below.drew⟩
end Go.Proofs.YtecmccihldjicaaDoor
