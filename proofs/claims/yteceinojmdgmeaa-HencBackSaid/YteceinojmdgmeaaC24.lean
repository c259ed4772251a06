/- slices.Insert of one field at the front. -/
import Derived.Test.YteceinojmdgmeaaC23
import Derived.Shelf.Spec.SlicesInsertGrow
namespace Go.Proofs.Yteceinojmdgmeaa
open Go.RowKit
set_option linter.unusedVariables false
set_option linter.unusedSimpArgs false

/-- copy at elements of more than one cell. -/
theorem run_copy_many {P : Program} (w : World) (dT sT ty elem : TypeId) (sz b o dLen dCap : Nat) (a : Addr) (sLen sCap : Nat) (cs : List Value)
    (hu : P.underlying dT = some (.slice elem)) (hs : (P.info? elem).map (·.size) = some sz) (hn : cs.length = Nat.min sLen dLen * sz)
    (hsrc : ∀ j v, cs[j]? = some v → w.cell? (a.add j) = some v) (hc : ∀ j, j < cs.length → (w.cell? ⟨b, o + j, none⟩).isSome = true) (hf : ∀ j, j < cs.length → w.frozen? ⟨b, o + j, none⟩ = false) (h1 : ∀ v ∈ cs, v.oneCell' = true) :
    (Builtin.copy_ #[dT, sT] ty #[.slice (some ⟨b, o, none⟩) dLen dCap, .slice (some a) sLen sCap]).run P w = .ok (goInt (Nat.min sLen dLen)) (w.setCells b o cs) := by
  have hl := run_loadCells_list (P := P) w a cs hsrc
  have hst := run_storeCells_cells (P := P) b o cs 0 w (by simpa using hc) (by simpa using hf) h1
  cases hq : P.info? elem with
  | none => simp [hq] at hs
  | some i =>
    have hi : i.size = sz := by simpa [hq] using hs
    simp [Builtin.copy_, run_underlying hu, Builtin.lenOf, Builtin.firstCells, sizeOf, typeInfo, hq, hi, ← hn, hl, hst]
theorem setCells_row (b : Nat) (t : TypeId) : ∀ (vs : List Value) (o : Nat) (w : World) (cur : Array Value), w.heap[b]? = some (.cells cur t (0, 0)) →
    ∃ cur', (w.setCells b o vs).heap[b]? = some (.cells cur' t (0, 0)) ∧ cur'.size = cur.size
  | [], o, w, cur, h => ⟨cur, h, rfl⟩
  | v :: r, o, w, cur, h => by
    obtain ⟨c2, h2, h3⟩ := setCells_row b t r (o + 1) (w.setCell ⟨b, o, none⟩ v) _ (Go.heap_setCell_same w b o cur t v h)
    exact ⟨c2, h2, by rw [h3]; simp⟩
theorem below_setCells {B : Nat} {w : World} (b : Nat) (hb : B ≤ b) : ∀ (vs : List Value) (o : Nat) (W : World), Below B w W → Below B w (W.setCells b o vs)
  | [], _, _, h => h
  | v :: r, o, W, h => below_setCells b hb r (o + 1) _ (h.setCell (show B ≤ (⟨b, o, none⟩ : Addr).block from hb) v)
theorem heap_setCells_other (b k : Nat) (hk : k ≠ b) : ∀ (vs : List Value) (o : Nat) (w : World), (w.setCells b o vs).heap[k]? = w.heap[k]?
  | [], _, _ => rfl
  | v :: r, o, w => (heap_setCells_other b k hk r (o + 1) _).trans (Below.heap_setCell _ _ _ _ (fun e => hk (by simpa using e)))
theorem ownF_of_cells {w : World} {B g cap : Nat} {cur : Array Value} {L : List Fld} (hg : w.heap[g]? = some (.cells cur 25 (0, 0))) (hs : cur.size = cap * 3) (hl : L.length ≤ cap) (hm : cap ≤ maxLen) (hB : B ≤ g)
    (hc : ∀ j u, (fcells L)[j]? = some u → w.cell? ⟨g, j, none⟩ = some u) : OwnF w B (.slice (some ⟨g, 0, none⟩) L.length cap) L := by
  refine ⟨fcells_len L, .inr ⟨g, cap, cur, rfl, hB, hg, hl, hm, hs, ?_⟩⟩
  refine List.ext_getElem? fun j => ?_
  by_cases hj : j < L.length * 3
  · have hj2 : j < (fcells L).length := by rw [fcells_len]; exact hj
    have h := hc j _ (List.getElem?_eq_getElem hj2)
    rw [cell_of_row _ _ _ _ _ _ hg] at h
    rw [List.getElem?_take_of_lt hj, List.getElem?_eq_getElem hj2, ← h]
    simp
  · rw [List.getElem?_eq_none (by rw [List.length_take]; omega), List.getElem?_eq_none (by rw [fcells_len]; omega)]
theorem overlaps_no (a b : Addr) (la ca lb cb : Nat) (hne : a.block ≠ b.block) (w : World) (tA tB : TypeId) (kA kB : Nat) (hsa : w.shape? a.block = some (tA, kA)) (hsb : w.shape? b.block = some (tB, kB)) (hkB : kB ≠ 0) (hfa : w.frozen? a = false) (hfe : w.frozen? { block := a.block, off := kA } = false) :
    (callFunc 82 #[.slice (some a) la ca, .slice (some b) lb cb]).run Try.prog w = .ok (.value (.bool false)) w := by
  rw [run_callFunc_extern Try.func82 (by kernel_rfl) (by kernel_rfl) (by kernel_rfl) (e := Extern.SlicesOverlaps.overlaps #[26, 26] #[4]) (by kernel_rfl),
      Lib.run_overlaps_apart w 26 4 25 Try.underlying26 3 Try.sizeOf25 a b la ca lb cb hne tA tB kA kB hsa hsb hkB hfa hfe]
  rfl
def InsPost (B : Nat) (v : Value) (f : Fld) (L : List Fld) (w : World) (e : Ending) (w' : World) : Prop := ∃ v', e = .returned v' ∧ OwnF w' B v' (f :: L) ∧ Below B w w' ∧ ∀ k, k < w.heap.size → some k ≠ v.ownBlock → w'.heap[k]? = w.heap[k]?
set_option maxRecDepth 100000 in
set_option maxHeartbeats 1000000 in
theorem insert_empty (f : Fld) (v : Value) (vb vc B : Nat) (w : World) (ho : OwnF w B v []) (hB : B ≤ w.heap.size) (hv : ∀ j u, f.cells[j]? = some u → w.cell? ⟨vb, j, none⟩ = some u) :
    Calls Try.prog 57 #[v, .int .i64 0, .slice (some ⟨vb, 0, none⟩) 1 vc] w (InsPost B v f [] w) := by
  obtain ⟨i0, hi0, hz0, hz1, hz2⟩ := info_parts field_info
  have HI := Lib.hid hi0
  have HZ0 := Lib.hid hz0
  have HZ1 := Lib.hid hz1
  have HZ2 := Lib.hid hz2
  clear hi0 hz0 hz1 hz2
  have HO := Lib.hid ho
  have HV := Lib.hid (show ∀ j u, f.cells[j]? = some u → w.cell? ((⟨vb, 0, none⟩ : Addr).add j) = some u from fun j u hj => by rw [add_zero]; exact hv j u hj)
  have H1 := Lib.hid (show ∀ u ∈ f.cells, u.oneCell' = true from fun u hu => fcells_one [f] u (by simpa [fcells] using hu))
  have hmx : (0 : Nat) + 1 ≤ maxLen := by decide
  have HBS := Lib.hid hB
  have hlen : f.cells.length = 1 * 3 := rfl
  obtain ⟨oa, cap, rfl, hff, hl1, hl2, hl3⟩ := ho.form
  clear ho hv hff hl1 hl2 hl3 hB
  cases oa with
  | none =>
    go_enter Try.func57, Try.ntmps57
    go_wp2_with (at_builtin; refine wpList_append_own_at _ rfl _ _ 26 rfl B 25 i0 _ 3 40 Try.underlying26 HI.out HZ0.out HZ1.out HZ2.out rfl (by omega) _ 0 [] rfl HO.out ⟨vb, 0, none⟩ 1 vc f.cells rfl hlen HV.out H1.out hmx (by omega) HBS.out ?_; intro v3 w3 hown3 hg3 _ _)
    have B3 := Lib.hid ((Below.refl B w).grown hg3 HBS.out (fun q hq => (HO.out.lt q hq).1))
    have HO3 := Lib.hid hown3
    have HGB := Lib.hid hg3.block
    clear hg3 hown3
    go_wp2_with fail
    go_ret
    exact ⟨_, rfl, HO3.out, B3.out, HGB.out⟩
  | some a =>
    obtain ⟨g, o, s⟩ := a
    go_enter Try.func57, Try.ntmps57
    go_wp2_with (at_builtin; refine wpList_append_own_at _ rfl _ _ 26 rfl B 25 i0 _ 3 40 Try.underlying26 HI.out HZ0.out HZ1.out HZ2.out rfl (by omega) _ 0 [] rfl HO.out ⟨vb, 0, none⟩ 1 vc f.cells rfl hlen HV.out H1.out hmx (by omega) HBS.out ?_; intro v3 w3 hown3 hg3 _ _)
    have B3 := Lib.hid ((Below.refl B w).grown hg3 HBS.out (fun q hq => (HO.out.lt q hq).1))
    have HO3 := Lib.hid hown3
    have HGB := Lib.hid hg3.block
    clear hg3 hown3
    go_wp2_with fail
    go_ret
    exact ⟨_, rfl, HO3.out, B3.out, HGB.out⟩
set_option maxRecDepth 100000 in
set_option maxHeartbeats 2000000 in
theorem insert_room (f : Fld) (g n cap vb vc B : Nat) (L : List Fld) (w : World) (ho : OwnF w B (.slice (some ⟨g, 0, none⟩) n cap) L) (hnL : L.length = n) (h0 : 0 < n) (hn : n ≤ 1000) (hroom : n + 1 ≤ cap) (hB : B ≤ w.heap.size) (hgv : vb ≠ g)
    (hv : w.heap[vb]? = some (.cells #[.string f.name, .string f.value, .bool f.never] 25 (0, 0))) :
    Calls Try.prog 57 #[.slice (some ⟨g, 0, none⟩) n cap, .int .i64 0, .slice (some ⟨vb, 0, none⟩) 1 vc] w (InsPost B (.slice (some ⟨g, 0, none⟩) n cap) f L w) := by
  subst hnL
  obtain ⟨cur, hBg, hg, hs, hmx⟩ : ∃ cur, B ≤ g ∧ w.heap[g]? = some (.cells cur 25 (0, 0)) ∧ cur.size = cap * 3 ∧ cap ≤ maxLen := by
    rcases ho.2 with ⟨e, _⟩ | ⟨g', cap', cur, e, h1, h2, h3, h4, h5, h6⟩
    · cases e
    · cases e; exact ⟨cur, h1, h2, h5, h4⟩
  have hc63 : cap ≤ 9223372036854775807 := by unfold maxLen at hmx; omega
  have HLC := Lib.hid (show (fcells L).length = L.length * 3 from fcells_len L)
  have hcs : ∀ j u, (fcells L)[j]? = some u → w.cell? ⟨g, j, none⟩ = some u := fun j u hj => by
    have := ho.cells (g := g) rfl j u hj
    rwa [add_zero] at this
  have hsp : ∀ j, j < (L.length + 1) * 3 → (w.cell? ⟨g, j, none⟩).isSome = true := fun j hj => by
    rw [cell_of_row _ _ _ _ _ _ hg, Array.getElem?_eq_getElem (by rw [hs]; omega)]; rfl
  have hfz : ∀ j, w.frozen? ⟨g, j, none⟩ = false := fun j => frozen_of_row _ _ _ _ _ hg
  have hvs : ∀ j u, f.cells[j]? = some u → w.cell? ⟨vb, j, none⟩ = some u := fun j u hj => by rw [cell_of_row _ _ _ _ _ _ hv]; simpa [Fld.cells] using hj
  have hov : ∀ lb cb, (callFunc 82 #[.slice (some ⟨vb, 0, none⟩) 1 vc, .slice (some ⟨g, 3, none⟩) lb cb]).run Try.prog w = .ok (.value (.bool false)) w := fun lb cb =>
    overlaps_no ⟨vb, 0, none⟩ ⟨g, 3, none⟩ 1 vc lb cb hgv w _ _ 3 (cap * 3) (by simp [World.shape?, hv]; rfl) (by simp [World.shape?, hg, hs]; rfl) (by omega) (frozen_of_row _ _ _ _ _ hv) (frozen_of_row _ _ _ _ _ hv)
  have hszi : (Try.prog.info? 25).map (·.size) = some 3 := by kernel_rfl
  have hcp1 : ∀ ty dc sc, (Builtin.copy_ #[26, 26] ty #[.slice (some ⟨g, 3, none⟩) L.length dc, .slice (some ⟨g, 0, none⟩) (L.length + 1) sc]).run Try.prog w.drew = .ok (goInt L.length) (w.drew.setCells g 3 (fcells L)) := fun ty dc sc => by
    have h := run_copy_many w.drew 26 26 ty 25 3 g 3 L.length dc ⟨g, 0, none⟩ (L.length + 1) sc (fcells L) Try.underlying26 hszi
      (by rw [HLC.out]; congr 1; simp only [Nat.min_def]; split <;> omega)
      (fun j u hj => by rw [add_zero]; exact hcs j u hj) (fun j hj => hsp _ (by rw [HLC.out] at hj; omega)) (fun j hj => hfz _) (fcells_one L)
    rw [h]
    congr 2
    simp only [Nat.min_def]; split <;> omega
  obtain ⟨W1, hW1⟩ : ∃ W1, W1 = w.drew.setCells g 3 (fcells L) := ⟨_, rfl⟩
  have hsp1 : ∀ k, k < (L.length + 1) * 3 → (W1.cell? ⟨g, k, none⟩).isSome = true := fun k hk => by
    rw [hW1]
    exact isSome_setCells g _ _ w.drew (fun j hj => hsp _ (by have := HLC.out; omega)) _ (hsp k hk)
  have hcp2 : ∀ (W : World), (∀ x, W.cell? x = W1.cell? x) → (∀ x, W.frozen? x = W1.frozen? x) → ∀ ty dc, (Builtin.copy_ #[26, 26] ty #[.slice (some ⟨g, 0, none⟩) (L.length + 1) dc, .slice (some ⟨vb, 0, none⟩) 1 vc]).run Try.prog W = .ok (goInt 1) (W.setCells g 0 f.cells) := fun W hWc hWf ty dc => by
    have h := run_copy_many W 26 26 ty 25 3 g 0 (L.length + 1) dc ⟨vb, 0, none⟩ 1 vc f.cells Try.underlying26 hszi
      (by show 3 = _; simp only [Nat.min_def]; split <;> omega)
      (fun j u hj => by
        rw [add_zero, hWc, hW1, World.cell?_setCells_out g _ _ _ _ (fun h _ => absurd h hgv)]
        exact hvs j u hj)
      (fun j hj => by rw [hWc, Nat.zero_add]; exact hsp1 _ (by have : f.cells.length = 3 := rfl; omega)) (fun j hj => by rw [hWf, hW1, World.frozen?_setCells]; exact hfz _) (fun u hu => fcells_one [f] u (by simpa [fcells] using hu))
    rw [h]
    congr 2
  have HEND := Lib.hid (show ∀ W : World, (∀ x, W.cell? x = W1.cell? x) → (∃ c2, W.heap[g]? = some (.cells c2 25 (0, 0)) ∧ c2.size = cap * 3) → OwnF (W.setCells g 0 f.cells) B (.slice (some ⟨g, 0, none⟩) (L.length + 1) cap) (f :: L) from fun W hWc ⟨c2, hc2, hc3⟩ => by
    obtain ⟨c4, hc4, hc5⟩ := setCells_row g _ f.cells 0 W c2 hc2
    have hfl : f.cells.length = 3 := rfl
    refine ownF_of_cells (L := f :: L) hc4 (hc5.trans hc3) hroom hmx hBg (fun j u hj => ?_)
    rw [fcells_cons] at hj
    by_cases hj3 : j < 3
    · have h := World.cell?_setCells_in g f.cells 0 W (fun k hk => by rw [hWc, Nat.zero_add]; exact hsp1 _ (by omega)) j hj3
      rw [Nat.zero_add] at h
      rw [h]
      rw [List.getElem?_append_left (by omega), List.getElem?_eq_getElem (by omega)] at hj
      exact hj
    · rw [World.cell?_setCells_out g _ _ _ _ (fun _ _ => .inr (by simp only [hfl]; omega)), hWc, hW1]
      rw [List.getElem?_append_right (by omega), hfl] at hj
      have hjl : j - 3 < (fcells L).length := (List.getElem?_eq_some_iff.1 hj).1
      have h := World.cell?_setCells_in g (fcells L) 3 w.drew (fun k hk => hsp _ (by rw [HLC.out] at hk; omega)) (j - 3) hjl
      rw [show 3 + (j - 3) = j from by omega] at h
      rw [h, ← hj, List.getElem?_eq_getElem hjl])
  have HROW := Lib.hid (show ∃ c2, W1.heap[g]? = some (.cells c2 25 (0, 0)) ∧ c2.size = cap * 3 from by
    obtain ⟨c2, h2, h3⟩ := setCells_row g 25 (fcells L) 3 w.drew cur hg
    exact ⟨c2, by rw [hW1]; exact h2, h3.trans hs⟩)
  have HBE := Lib.hid (show Below B w (W1.setCells g 0 f.cells) from below_setCells g hBg _ _ _ (by rw [hW1]; exact below_setCells g hBg _ _ _ (Below.refl _ _).drew))
  have HKB := Lib.hid (show ∀ k, k < w.heap.size → some k ≠ some g → (W1.setCells g 0 f.cells).heap[k]? = w.heap[k]? from fun k _ hk => by
    have hne : k ≠ g := fun e => hk (by rw [e])
    rw [heap_setCells_other g k hne, hW1, heap_setCells_other g k hne]
    rfl)
  rw [← hW1] at hcp1
  have HW1 := Lib.hid hW1
  clear hW1 hsp1 hvs hfz hsp hcs hg hv ho hgv hs HLC hmx hBg
  generalize L.length = n at *
  have hw1 : IntKind.i64.wrap ((n : Int) + 1) = (n : Int) + 1 := IntWalk.i64_in _ (by omega)
  have mixed : Try.prog.follows Departure.mixedOrders = true := by kernel_rfl
  have hwr1 : IntKind.i64.wrap 1 = 1 := rfl
  have hb2 : ¬ (cap = 1) := by omega
  have hb3 : (1 : Int) ≤ (n : Int) + 1 := by omega
  have hb4 : (0 : Int) ≤ (n : Int) + 1 := by omega
  have hz1 : ((0 : Int) == (n : Int)) = false := by simp; omega
  have hz2 : decide ((cap : Int) < (n : Int) + 1) = false := decide_eq_false (by omega)
  go_enter Try.func57, Try.ntmps57
  go_wp2_with (simp only [hov])
  go_region_law_o (refine step_copy_runI rfl _ _ 26 26 rfl _ _ (by simp [Act.eval, Act.put]) (by simp [Act.eval, Act.put]) (hcp1 _ _ _) ?_)
  go_wp2_with (at_builtin; refine wpList_copy_runI _ rfl _ _ 26 26 rfl _ _ rfl rfl (hcp2 _ (fun _ => rfl) (fun _ => rfl) _ _) ?_)
  go_ret
  exact ⟨_, rfl, HEND.out W1 (fun _ => rfl) HROW.out, HBE.out, HKB.out⟩
set_option maxRecDepth 100000 in
set_option maxHeartbeats 2000000 in
theorem insert_grow (f : Fld) (g n cap vb vc B : Nat) (L : List Fld) (w : World) (ho : OwnF w B (.slice (some ⟨g, 0, none⟩) n cap) L) (hnL : L.length = n) (h0 : 0 < n) (hn : n ≤ 1000) (hnc : n ≤ cap) (hroom : cap < n + 1) (hB : B ≤ w.heap.size)
    (hv : w.heap[vb]? = some (.cells #[.string f.name, .string f.value, .bool f.never] 25 (0, 0))) :
    Calls Try.prog 57 #[.slice (some ⟨g, 0, none⟩) n cap, .int .i64 0, .slice (some ⟨vb, 0, none⟩) 1 vc] w (InsPost B (.slice (some ⟨g, 0, none⟩) n cap) f L w) := by
  subst hnL
  obtain ⟨i0, hi0, hz0, hz1, hz2⟩ := info_parts field_info
  have hbw : g < w.heap.size := (ho.lt g rfl).2
  have hvw : vb < w.heap.size := World.block_lt_of_cell? w ⟨vb, 0, none⟩ (cell_of_row _ _ _ _ _ _ hv)
  have hlc : (fcells L).length = L.length * 3 := fcells_len L
  have hcs : ∀ j u, (fcells L)[j]? = some u → w.cell? ⟨g, j, none⟩ = some u := fun j u hj => by
    have := ho.cells (g := g) rfl j u hj
    rwa [add_zero] at this
  have hvs : ∀ j u, f.cells[j]? = some u → w.cell? ⟨vb, j, none⟩ = some u := fun j u hj => by rw [cell_of_row _ _ _ _ _ _ hv]; simpa [Fld.cells] using hj
  have hszi : (Try.prog.info? 25).map (·.size) = some 3 := by kernel_rfl
  have hold : (Builtin.firstCells i0.size 0 (.slice (some ⟨g, 0, none⟩) 0 cap)).run Try.prog w.drew = .ok ([] : List Value).toArray w.drew := by
    rw [hz1]
    exact run_firstCells_some w.drew 3 0 ⟨g, 0, none⟩ 0 cap [] rfl (fun j v hj => by simp at hj)
  have hrz : ∀ ty, (Builtin.append_ #[26, 3] ty #[.slice (some ⟨g, 0, none⟩) 0 cap, .int .i64 ((L.length : Int) + 1)]).run Try.prog w =
      .ok (.slice (some ⟨w.heap.size, 0, none⟩) (L.length + 1) (grownCap w (L.length + 1) cap 25)) (w.drew.alloc (.cells (([] : List Value).toArray ++ Builtin.zeroCells (Value.agg #[.string ⟨#[]⟩, .string ⟨#[]⟩, .bool false]).cells (L.length + 1) ++ Builtin.zeroCells (Value.agg #[.string ⟨#[]⟩, .string ⟨#[]⟩, .bool false]).cells (grownCap w (L.length + 1) cap 25 - (L.length + 1))) 25)) := fun ty => by
    have h := Lib.run_append_grow_zeros w 26 3 ty 25 i0 _ .i64 .i64 Try.underlying26 Try.underlying3 hi0 hz0 (some ⟨g, 0, none⟩) 0 cap [] hold (L.length + 1) (by omega) (by omega) (by omega) (by omega) (by rw [hz2]; omega) (by rw [hz2, Nat.zero_add]; exact growslice_fits hroom (by omega))
    rw [Nat.zero_add] at h
    exact h
  obtain ⟨G, hG⟩ : ∃ G, G = grownCap w (L.length + 1) cap 25 := ⟨_, rfl⟩
  obtain ⟨ROW, hROW⟩ : ∃ ROW : Array Value, ROW = ([] : List Value).toArray ++ Builtin.zeroCells (Value.agg #[.string ⟨#[]⟩, .string ⟨#[]⟩, .bool false]).cells (L.length + 1) ++ Builtin.zeroCells (Value.agg #[.string ⟨#[]⟩, .string ⟨#[]⟩, .bool false]).cells (G - (L.length + 1)) := ⟨_, rfl⟩
  rw [← hG] at hrz
  rw [← hROW] at hrz
  have hGn : L.length + 1 ≤ G := by rw [hG]; exact grownCap_ge w _ _ _
  have hGm : G ≤ maxLen := by rw [hG]; exact grownCap_le_maxLen w (L.length + 1) cap 25 (by unfold maxLen; omega)
  have hRs : ROW.size = G * 3 := by
    rw [hROW]
    simp [Builtin.zeroCells, Value.cells]
    omega
  have hG63 : G ≤ 9223372036854775807 := by unfold maxLen at hGm; omega
  obtain ⟨W1, hW1⟩ : ∃ W1, W1 = w.drew.alloc (.cells ROW 25) := ⟨_, rfl⟩
  rw [← hW1] at hrz
  have hrow1 : W1.heap[w.heap.size]? = some (.cells ROW 25 (0, 0)) := by rw [hW1]; exact heap_alloc_new w.drew _
  have hN : ∀ j, j < (L.length + 1) * 3 → (W1.cell? ⟨w.heap.size, j, none⟩).isSome = true := fun j hj => by
    rw [cell_of_row _ _ _ _ _ _ hrow1, Array.getElem?_eq_getElem (by rw [hRs]; omega)]; rfl
  have hNf : ∀ j, W1.frozen? ⟨w.heap.size, j, none⟩ = false := fun j => frozen_of_row _ _ _ _ _ hrow1
  have hBel : Below w.heap.size w W1 := by rw [hW1]; exact (Below.refl _ _).drew.alloc (Nat.le_refl _) _
  have hOb : ∀ j u, (fcells L)[j]? = some u → W1.cell? ⟨g, j, none⟩ = some u := fun j u hj => (cell_eq0 (a := ⟨g, j, none⟩) (hBel.block g hbw)).trans (hcs j u hj)
  have hOv : ∀ j u, f.cells[j]? = some u → W1.cell? ⟨vb, j, none⟩ = some u := fun j u hj => (cell_eq0 (a := ⟨vb, j, none⟩) (hBel.block vb hvw)).trans (hvs j u hj)
  have hfl : f.cells.length = 3 := rfl
  have hcpA : ∀ (W : World), (∀ x, W.cell? x = W1.cell? x) → (∀ x, W.frozen? x = W1.frozen? x) → ∀ ty dc, (Builtin.copy_ #[26, 26] ty #[.slice (some ⟨w.heap.size, 0, none⟩) (L.length + 1) dc, .slice (some ⟨vb, 0, none⟩) 1 vc]).run Try.prog W = .ok (goInt 1) (W.setCells w.heap.size 0 f.cells) := fun W hWc hWf ty dc => by
    have h := run_copy_many W 26 26 ty 25 3 w.heap.size 0 (L.length + 1) dc ⟨vb, 0, none⟩ 1 vc f.cells Try.underlying26 hszi
      (by show 3 = _; simp only [Nat.min_def]; split <;> omega)
      (fun j u hj => by rw [add_zero, hWc]; exact hOv j u hj)
      (fun j hj => by rw [hWc, Nat.zero_add]; exact hN _ (by omega)) (fun j hj => by rw [hWf]; exact hNf _) (fun u hu => fcells_one [f] u (by simpa [fcells] using hu))
    rw [h]
    congr 2
  have hgN : g ≠ w.heap.size := by omega
  have hcpB : ∀ (W : World), (∀ x, W.cell? x = (W1.setCells w.heap.size 0 f.cells).cell? x) → (∀ x, W.frozen? x = (W1.setCells w.heap.size 0 f.cells).frozen? x) → ∀ ty dc sc, (Builtin.copy_ #[26, 26] ty #[.slice (some ⟨w.heap.size, 3, none⟩) L.length dc, .slice (some ⟨g, 0, none⟩) L.length sc]).run Try.prog W = .ok (goInt L.length) (W.setCells w.heap.size 3 (fcells L)) := fun W hWc hWf ty dc sc => by
    have h := run_copy_many W 26 26 ty 25 3 w.heap.size 3 L.length dc ⟨g, 0, none⟩ L.length sc (fcells L) Try.underlying26 hszi
      (by rw [hlc]; simp only [Nat.min_def]; split <;> omega)
      (fun j u hj => by
        rw [add_zero, hWc, World.cell?_setCells_out _ _ _ _ _ (fun h _ => absurd h hgN)]
        exact hOb j u hj)
      (fun j hj => by rw [hWc]; exact isSome_setCells _ _ _ _ (fun t ht => by rw [Nat.zero_add]; exact hN _ (by omega)) _ (hN _ (by omega)))
      (fun j hj => by rw [hWf, World.frozen?_setCells]; exact hNf _) (fcells_one L)
    rw [h]
    congr 2
    simp only [Nat.min_def]; split <;> omega
  have HEND := Lib.hid (show ∀ W : World, (∀ x, W.cell? x = (W1.setCells w.heap.size 0 f.cells).cell? x) → (∃ c2, W.heap[w.heap.size]? = some (.cells c2 25 (0, 0)) ∧ c2.size = G * 3) → OwnF (W.setCells w.heap.size 3 (fcells L)) B (.slice (some ⟨w.heap.size, 0, none⟩) (L.length + 1) G) (f :: L) from fun W hWc ⟨c2, hc2, hc3⟩ => by
    obtain ⟨c4, hc4, hc5⟩ := setCells_row w.heap.size _ (fcells L) 3 W c2 hc2
    have hsm : ∀ k, k < (L.length + 1) * 3 → (W.cell? ⟨w.heap.size, k, none⟩).isSome = true := fun k hk => by rw [hWc]; exact isSome_setCells _ _ _ _ (fun t ht => by rw [Nat.zero_add]; exact hN _ (by omega)) _ (hN _ hk)
    refine ownF_of_cells (L := f :: L) hc4 (hc5.trans hc3) hGn hGm hB (fun j u hj => ?_)
    rw [fcells_cons] at hj
    by_cases hj3 : j < 3
    · rw [World.cell?_setCells_out w.heap.size _ _ _ _ (fun _ _ => .inl (show j < 3 from hj3)), hWc]
      have h := World.cell?_setCells_in w.heap.size f.cells 0 W1 (fun k hk => by rw [Nat.zero_add]; exact hN _ (by omega)) j hj3
      rw [Nat.zero_add] at h
      rw [h]
      rw [List.getElem?_append_left (by omega), List.getElem?_eq_getElem (by omega)] at hj
      exact hj
    · rw [List.getElem?_append_right (by omega), hfl] at hj
      have hjl : j - 3 < (fcells L).length := (List.getElem?_eq_some_iff.1 hj).1
      have h := World.cell?_setCells_in w.heap.size (fcells L) 3 W (fun k hk => hsm _ (by omega)) (j - 3) hjl
      rw [show 3 + (j - 3) = j from by omega] at h
      rw [h, ← hj, List.getElem?_eq_getElem hjl])
  have HROW := Lib.hid (show ∃ c2, (W1.setCells w.heap.size 0 f.cells).heap[w.heap.size]? = some (.cells c2 25 (0, 0)) ∧ c2.size = G * 3 from by
    obtain ⟨c2, h2, h3⟩ := setCells_row w.heap.size 25 f.cells 0 W1 ROW hrow1
    exact ⟨c2, h2, h3.trans hRs⟩)
  have HBE2 := Lib.hid (show Below w.heap.size w (W1.setCells w.heap.size 0 f.cells) from below_setCells _ (Nat.le_refl _) _ _ _ hBel)
  have HBEL := Lib.hid (show Below B w (W1.setCells w.heap.size 0 f.cells) from below_setCells _ hB _ _ _ (hBel.mono hB))
  have hcpC := fun ty dc sc => hcpB (W1.setCells w.heap.size 0 f.cells).drew (fun _ => rfl) (fun _ => rfl) ty dc sc
  clear hcpB
  have hE1 : ∀ x, ((w.alloc (.cells ROW 25)).drew).cell? x = W1.cell? x := fun x => by rw [hW1]; rfl
  have hE2 : ∀ x, ((w.alloc (.cells ROW 25)).drew).frozen? x = W1.frozen? x := fun x => by rw [hW1]; rfl
  have HE := Lib.hid hW1
  clear hROW hG hRs hN hNf hOb hOv hcs hvs hold hrow1 hBel hW1 hbw hvw hGm ho hv hz0 hz1 hz2 hi0 hlc hszi hgN
  generalize L.length = n at *
  have hw1 : IntKind.i64.wrap ((n : Int) + 1) = (n : Int) + 1 := IntWalk.i64_in _ (by omega)
  have mixed : Try.prog.follows Departure.mixedOrders = true := by kernel_rfl
  have hwr1 : IntKind.i64.wrap 1 = 1 := rfl
  have hb2 : ¬ (G = 1) := by omega
  have hb3 : (1 : Int) ≤ (n : Int) + 1 := by omega
  have hb4 : (0 : Int) ≤ (n : Int) + 1 := by omega
  have hb5 : (0 : Int) ≤ (n : Int) := by omega
  have hz1 : ((0 : Int) == (n : Int)) = false := by simp; omega
  have hz2 : decide ((cap : Int) < (n : Int) + 1) = true := decide_eq_true (by omega)
  go_enter Try.func57, Try.ntmps57
  go_wp2_with (first
    | (at_builtin; refine Lib.wpList_append_run _ rfl _ _ _ _ rfl _ _ rfl rfl _ _ (hrz _) ?_)
    | (at_builtin; refine wpList_copy_runI _ rfl _ _ 26 26 rfl _ _ rfl rfl (hcpA _ (fun _ => rfl) (fun _ => rfl) _ _) ?_))
  go_region_law_o (refine step_copy_runI rfl _ _ 26 26 rfl (.slice (some ⟨w.heap.size, 3, none⟩) n (G - 1)) (.slice (some ⟨g, 0, none⟩) n cap) (by simp [Act.eval, Act.put]) (by simp [Act.eval, Act.put]) (hcpC _ _ _) ?_)
  go_wp2_with fail
  go_ret
  exact ⟨_, rfl, HEND.out _ (fun _ => rfl) HROW.out, below_setCells _ hB _ _ _ HBEL.out.drew, fun k hk _ => (below_setCells _ (Nat.le_refl _) _ _ _ HBE2.out.drew).block k hk⟩
/-- slices.Insert of one field at the front of a list of one's own. -/
theorem insert_any (f : Fld) (v : Value) (vb vc B : Nat) (L : List Fld) (w : World) (ho : OwnF w B v L) (hn : L.length ≤ 1000) (hB : B ≤ w.heap.size) (hgv : ∀ g, v.ownBlock = some g → vb ≠ g)
    (hv : w.heap[vb]? = some (.cells #[.string f.name, .string f.value, .bool f.never] 25 (0, 0))) :
    Calls Try.prog 57 #[v, .int .i64 0, .slice (some ⟨vb, 0, none⟩) 1 vc] w (InsPost B v f L w) := by
  by_cases h0 : L = []
  · subst h0
    exact insert_empty f v vb vc B w ho hB (fun j u hj => by rw [cell_of_row _ _ _ _ _ _ hv]; simpa [Fld.cells] using hj)
  · have h1 : 0 < L.length := List.length_pos_iff.2 h0
    obtain ⟨g, cap, hvv, _, _⟩ := World.ownsRow.form ho h1
    subst hvv
    obtain ⟨oa, cap', e, _, hl, _⟩ := ho.form
    obtain ⟨_, rfl⟩ : some (⟨g, 0, none⟩ : Addr) = oa ∧ cap = cap' := by simpa using e
    by_cases hr : L.length + 1 ≤ cap
    · exact insert_room f g _ cap vb vc B L w ho rfl h1 hn hr hB (hgv g rfl) hv
    · exact insert_grow f g _ cap vb vc B L w ho rfl h1 hn hl (by omega) hB hv
end Go.Proofs.Yteceinojmdgmeaa

