/- The machine's loads, stores and new blocks, in the program. -/
import Derived.Test.YtlpapdknggjfkaaGreatDoorC15
import Derived.Test.YtlpapdknggjfkaaGreatDoorC16
import Derived.Lib.ConvBytes
import Derived.Laws.BytesString
namespace Go.Proofs.YtlpapdknggjfkaaGreatDoor
open Go.RowKit
set_option linter.unusedVariables false
set_option linter.unusedSimpArgs false
set_option linter.unusedSectionVars false
variable [Sy]

/-- An operation that gives a value does so. -/
def VRun (P : Program) (B : Nat) (s : Sem Value) (ρ : Pm) (w : World) (x : AV) (h' : Heap) : Prop := ∃ ρ' v w', s.run P w = .ok v w' ∧ ρ.le ρ' ∧ x.rp ρ' v ∧ Rep B ρ' h' w' ∧ Below B w w'
def URun (P : Program) (B : Nat) (s : Sem Unit) (ρ : Pm) (w : World) (h' : Heap) : Prop := ∃ ρ' w', s.run P w = .ok () w' ∧ ρ.le ρ' ∧ Rep B ρ' h' w' ∧ Below B w w'
theorem VRun.here {P : Program} {B : Nat} {s : Sem Value} {ρ : Pm} {w : World} {x : AV} {h : Heap} {v : Value} (e : s.run P w = .ok v w) (hx : x.rp ρ v) (hr : Rep B ρ h w) : VRun P B s ρ w x h :=
  ⟨ρ, v, w, e, Pm.le.refl ρ, hx, hr, Below.refl _ _⟩
theorem addr_add (b o j : Nat) : (⟨b, o, none⟩ : Addr).add j = ⟨b, o + j, none⟩ := by unfold Addr.add; split <;> simp_all
theorem run_isAggB {P : Program} {t : TypeId} {b : Bool} (e : isAggB P t = some b) (w : World) : (isAgg t).run P w = .ok b w := by
  unfold isAggB at e
  cases hu : P.underlying t with
  | none => rw [hu] at e; cases e
  | some d =>
    rw [hu] at e
    cases d <;> (injection e with e; subst e; simp [isAgg, run_underlying hu])
theorem szO_some {P : Program} {t : TypeId} {k : Nat} (e : szO P t = some k) : ∃ i, P.info? t = some i ∧ i.size = k := by
  unfold szO at e
  cases hi : P.info? t with
  | none => rw [hi] at e; cases e
  | some i => rw [hi] at e; injection e with e; exact ⟨i, rfl, e⟩
theorem run_szO {P : Program} {t : TypeId} {k : Nat} (e : szO P t = some k) (w : World) : (sizeOf t).run P w = .ok k w := by
  obtain ⟨i, hi, rfl⟩ := szO_some e
  simp [sizeOf, typeInfo, hi]
theorem run_zeroO {P : Program} {t : TypeId} {x : AV} (e : zeroO P t = some x) (w : World) : ∃ z, (zeroValue t).run P w = .ok z w ∧ (∀ ρ, x.rp ρ z) ∧ (∃ i, P.info? t = some i ∧ i.zero = some z) ∧ ofV z = some x := by
  unfold zeroO at e
  cases hi : P.info? t with
  | none => rw [hi] at e; cases e
  | some i =>
    rw [hi] at e
    cases hz : i.zero with
    | none => simp [hz] at e
    | some z =>
      simp [hz] at e
      exact ⟨z, by simp [zeroValue, typeInfo, hi, hz], fun ρ => ofV_rp e, ⟨i, rfl, hz⟩, e⟩
/-- Cells that are told, loaded. -/
theorem Rep.cells {P : Program} {B : Nat} {ρ : Pm} {h : Heap} {w : World} (hr : Rep B ρ h w) {n o k : Nat} {l : List AV} (hl : l.length = k) (hc : ∀ i, i < k → cl h n (o + i) = l[i]?) {b f c : Nat} (hn : ρ n = some (b, f, c)) :
    ∃ vs : List Value, (loadCells ⟨b, f + o, none⟩ k).run P w = .ok vs.toArray w ∧ AV.rps ρ l vs ∧ vs.length = k ∧ ∀ i, i < k → w.cell? ⟨b, f + o + i, none⟩ = vs[i]? := by
  have hcell : ∀ i, i < k → ∃ x v, l[i]? = some x ∧ w.cell? ⟨b, f + o + i, none⟩ = some v ∧ x.rp ρ v := fun i hi => by
    obtain ⟨x, hx⟩ : ∃ x, l[i]? = some x := ⟨l[i], List.getElem?_eq_getElem (by omega)⟩
    obtain ⟨b', f', c', v, arr, el, fz, g1, g2, g3, g4, g5, g6, g7⟩ := hr.cell ((hc i hi).trans hx)
    rw [hn] at g1
    injection g1 with g1
    injection g1 with g1 g8
    injection g8 with g8 g9
    subst g1 g8 g9
    exact ⟨x, v, hx, by rw [Nat.add_assoc]; exact g5, g6⟩
  refine ⟨(List.range k).map fun j => (w.cell? ((⟨b, f + o, none⟩ : Addr).add j)).getD undef, ?_, ?_, by simp, fun i hi => ?_⟩
  · exact run_loadCells w _ k _ (fun j hj => by
      obtain ⟨x, v, h1, h2, h3⟩ := hcell j hj
      rw [addr_add, h2]
      rfl)
  · refine rps_at.2 ⟨by simp [hl], fun i x hx => ?_⟩
    have hi : i < k := by have := (List.getElem?_eq_some_iff.1 hx).1; omega
    obtain ⟨x', v, h1, h2, h3⟩ := hcell i hi
    rw [hx] at h1
    injection h1 with h1
    subst h1
    refine ⟨v, ?_, h3⟩
    rw [List.getElem?_map, List.getElem?_range hi]
    show some ((w.cell? ((⟨b, f + o, none⟩ : Addr).add i)).getD undef) = _
    rw [addr_add, h2]
    rfl
  · obtain ⟨x', v, h1, h2, h3⟩ := hcell i hi
    rw [List.getElem?_map, List.getElem?_range hi]
    show _ = some ((w.cell? ((⟨b, f + o, none⟩ : Addr).add i)).getD undef)
    rw [addr_add, h2]
    rfl
theorem need_ok {α β : Type} {o : Option α} {why : Nat} {g : α → M β} {lo : Nat} {h : Heap} {c : Nat} {lg : List Ev} {x : β} {h' : Heap} {c' : Nat} {lg' : List Ev} (e : need o why g lo h c lg = .ok x h' c' lg') : ∃ a, o = some a ∧ g a lo h c lg = .ok x h' c' lg' := by
  cases o with
  | none => cases e
  | some a => exact ⟨a, rfl, e⟩
theorem ret_ok {α : Type} {a x : α} {lo : Nat} {h : Heap} {c : Nat} {lg : List Ev} {h' : Heap} {c' : Nat} {lg' : List Ev} (e : ret a lo h c lg = .ok x h' c' lg') : x = a ∧ h' = h ∧ c' = c ∧ lg' = lg := by
  injection e with e1 e2 e3 e4
  exact ⟨e1.symm, e2.symm, e3.symm, e4.symm⟩
section
variable {P : Program} {B : Nat} {lo : Nat} {h : Heap} {c : Nat} {lg : List Ev} {h' : Heap} {c' : Nat} {lg' : List Ev} {ρ : Pm} {w : World}
theorem loadVar_snd {t : TypeId} {n o : Nat} {y : AV} (e : loadM P t (.ptr n o) lo h c lg = .ok y h' c' lg') (hr : Rep B ρ h w) {b f cc : Nat} (hn : ρ n = some (b, f, cc)) : h' = h ∧ ∃ v, (loadVar t ⟨b, f + o, none⟩).run P w = .ok v w ∧ y.rp ρ v := by
  obtain ⟨ag, hag, e⟩ := need_ok (show need (isAggB P t) 21 (fun b => Bool.rec (motive := fun _ => M AV) (rdC n o) (need (szO P t) 22 fun k => bnd (rdCs n k o) fun l => ret (.agg l)) b) lo h c lg = .ok y h' c' lg' from e)
  have hrun := run_isAggB hag
  cases ag with
  | false =>
    obtain ⟨rfl, _, hc⟩ := rdC_ok e
    obtain ⟨b', f', c2, v, arr, el, fz, g1, g2, g3, g4, g5, g6, g7⟩ := hr.cell hc
    rw [hn] at g1
    injection g1 with g1
    injection g1 with g1 g8
    injection g8 with g8 g9
    subst g1 g8 g9
    refine ⟨rfl, v, ?_, g6⟩
    simp [loadVar, hrun, load, Sem.run, g5]
  | true =>
    obtain ⟨k, hk, e⟩ := need_ok e
    obtain ⟨l, h1, c1, lg1, e1, e2⟩ := bnd_ok e
    obtain ⟨rfl, rfl, rfl, rfl⟩ := ret_ok e2
    obtain ⟨rfl, _, g3, g4⟩ := rdCs_ok e1
    obtain ⟨vs, k1, k2, k3, _⟩ := hr.cells (P := P) g3 g4 hn
    refine ⟨rfl, .agg vs.toArray, ?_, by simp only [AV.rp]; exact ⟨vs.toArray, rfl, by simpa using k2⟩⟩
    simp [loadVar, hrun, run_szO hk, k1]
theorem load_snd {t : TypeId} {x y : AV} {v : Value} (e : loadM P t x lo h c lg = .ok y h' c' lg') (hr : Rep B ρ h w) (hx : x.rp ρ v) : VRun P B (Instr.loadAt t v) ρ w y h' := by
  cases x with
  | ptr n o =>
    simp only [AV.rp] at hx
    obtain ⟨b, f, cc, hn, rfl⟩ := hx
    obtain ⟨rfl, v, k1, k2⟩ := loadVar_snd e hr hn
    exact VRun.here (by simp [Instr.loadAt, Instr.sureAddr, k1]) k2 hr
  | _ => cases e
/-- Cells, written one behind the other. -/
theorem stores_snd {n b f cc : Nat} (hn : ρ n = some (b, f, cc)) : ∀ {l : List AV} {vs : List Value} {o i : Nat} {u : Unit} {h : Heap} {c : Nat} {lg : List Ev} {h' : Heap} {c' : Nat} {lg' : List Ev} {w : World}, wrCs n l (o + i) lo h c lg = .ok u h' c' lg' → AV.rps ρ l vs → Rep B ρ h w →
    ∃ w', (storeCells ⟨b, f + o, none⟩ vs i).run P w = .ok () w' ∧ Rep B ρ h' w' ∧ Below B w w' ∧ (∀ m, mt h' m = mt h m)
  | [], vs, o, i, u, h, c, lg, h', c', lg', w, e, hv, hr => by
    rw [rps_nil] at hv
    subst hv
    obtain ⟨_, rfl, _, _⟩ := ret_ok (show ret () lo h c lg = .ok u h' c' lg' from e)
    exact ⟨w, rfl, hr, Below.refl _ _, fun _ => rfl⟩
  | x :: l, vs, o, i, u, h, c, lg, h', c', lg', w, e, hv, hr => by
    rw [rps_cons] at hv
    obtain ⟨y, m, rfl, hx, hl⟩ := hv
    obtain ⟨ho, e⟩ := want_ok (show want x.one 20 (bnd (wrC n (o + i) x) fun _ => wrCs n l (Nat.succ (o + i))) lo h c lg = .ok u h' c' lg' from e)
    obtain ⟨_, h1, c1, lg1, e1, e2⟩ := bnd_ok e
    obtain ⟨_, ⟨z, hz⟩, hm, hc⟩ := wrC_ok e1
    obtain ⟨b', f', c2, v0, arr, el, fz, g1, g2, g3, g4, g5, g6, g7⟩ := hr.cell hz
    have g1' := g1
    rw [hn] at g1
    injection g1 with g1
    injection g1 with g1 g8
    injection g8 with g8 g9
    subst g1 g8 g9
    obtain ⟨hr1, hb1⟩ := hr.write hz hm hc hn hx
    obtain ⟨w', k1, k2, k3, k4⟩ := stores_snd hn (o := o) (i := i + 1) (show wrCs n l (o + (i + 1)) lo h1 c1 lg1 = .ok u h' c' lg' from e2) hl hr1
    refine ⟨w', ?_, k2, hb1.trans k3, fun m => (k4 m).trans (hm m)⟩
    obtain ⟨q1, q2⟩ := rp_one hx ho
    have hst : (store ((⟨b, f + o, none⟩ : Addr).add i) y).run P w = .ok () (w.setCell ⟨b, f + (o + i), none⟩ y) := by
      rw [addr_add, Nat.add_assoc]
      unfold store
      cases y with
      | agg a => exact absurd rfl (q1 a)
      | tuple a => exact absurd rfl (q2 a)
      | _ => simp [Sem.run, g5, g7]
    show ((store ((⟨b, f + o, none⟩ : Addr).add i) y) >>= fun _ => storeCells ⟨b, f + o, none⟩ m (i + 1)).run P w = _
    rw [Sem.run_bind, hst]
    exact k1
theorem store_snd {t : TypeId} {x y z : AV} {v u : Value} (e : storeM P t x y lo h c lg = .ok z h' c' lg') (hr : Rep B ρ h w) (hx : x.rp ρ v) (hy : y.rp ρ u) : z = .tup [] ∧ URun P B (Instr.storeAt t v u) ρ w h' := by
  cases x with
  | ptr n o =>
    simp only [AV.rp] at hx
    obtain ⟨b, f, cc, hn, rfl⟩ := hx
    obtain ⟨k, hk, e⟩ := need_ok (show need (szO P t) 24 (fun k => want (Nat.beq (lenL y.cells) k) 25 (bnd (wrCs n y.cells o) fun _ => ret (.tup []))) lo h c lg = .ok z h' c' lg' from e)
    obtain ⟨hkl, e⟩ := want_ok e
    obtain ⟨uu, h1, c1, lg1, e1, e2⟩ := bnd_ok e
    obtain ⟨rfl, rfl, rfl, rfl⟩ := ret_ok e2
    have hlen : y.cells.length = k := by rw [← lenL_eq]; exact Nat.eq_of_beq_eq_true hkl
    have ht : ∀ l, y ≠ .tup l := fun l hl => by
      subst hl
      obtain ⟨ho, _⟩ := want_ok (show want (AV.tup l).one 20 (bnd (wrC n o (.tup l)) fun _ => wrCs n [] (Nat.succ o)) lo h c lg = .ok uu _ _ _ from e1)
      cases ho
    have hcs := rp_cells hy ht
    obtain ⟨w', k1, k2, k3, _⟩ := stores_snd (P := P) hn (o := o) (i := 0) e1 hcs hr
    refine ⟨rfl, ρ, w', ?_, Pm.le.refl ρ, k2, k3⟩
    have hsz : u.cells.size = k := by
      have := rps_length hcs
      simp at this
      omega
    simp [Instr.storeAt, Instr.sureAddr, storeVar, run_szO hk, hsz]
    exact k1
  | _ => cases e
/-- A new row. -/
theorem newRow_snd {el : TypeId} {z : Nat} {l : List AV} {n : Nat} (e : newRowM el z l false lo h c lg = .ok n h' c' lg') (hr : Rep B ρ h w) {arr : Array Value} (hl : AV.rps ρ l arr.toList) (cc : Nat) :
    ∃ ρ', ρ.le ρ' ∧ ρ' n = some (w.heap.size, 0, cc) ∧ Rep B ρ' h' (w.alloc (.cells arr el)) ∧ Below B w (w.alloc (.cells arr el)) := by
  obtain ⟨h0, rfl, rfl, _, _⟩ := new_ok e
  refine hr.new h0 rfl fun ρ' hle => ?_
  refine ⟨arr, (0, 0), rfl, .inl rfl, fun i x hx => ?_, fun ho => by cases ho⟩
  have hx : (Tr.ofList l).get i = some x := hx
  rw [Tr.get_ofList] at hx
  obtain ⟨v, h1, h2⟩ := (rps_at.1 hl).2 i x hx
  exact ⟨v, by rw [Nat.zero_add]; simpa using h1, h2.mono hle⟩
theorem box_snd {t : TypeId} {x y : AV} {v : Value} (e : boxM t x lo h c lg = .ok y h' c' lg') (hr : Rep B ρ h w) (hx : x.rp ρ v) : VRun P B (do pure (.pointer (some (← newVar t v)))) ρ w y h' := by
  obtain ⟨ho, e⟩ := want_ok (show want (x.cells.all AV.one) 27 (bnd (newRowM t 1 x.cells false) fun n => ret (.ptr n 0)) lo h c lg = .ok y h' c' lg' from e)
  obtain ⟨n, h1, c1, lg1, e1, e2⟩ := bnd_ok e
  obtain ⟨rfl, rfl, rfl, rfl⟩ := ret_ok e2
  have ht : ∀ l, x ≠ .tup l := fun l hl => by
    subst hl
    cases ho
  obtain ⟨ρ', k1, k2, k3, k4⟩ := newRow_snd e1 hr (rp_cells hx ht) 0
  refine ⟨ρ', .pointer (some ⟨w.heap.size, 0, none⟩), w.alloc (.cells v.cells t), ?_, k1, ?_, k3, k4⟩
  · simp [newVar, newRow]
  · simp only [AV.rp]
    exact ⟨_, _, _, k2, rfl⟩
end
end Go.Proofs.YtlpapdknggjfkaaGreatDoor

