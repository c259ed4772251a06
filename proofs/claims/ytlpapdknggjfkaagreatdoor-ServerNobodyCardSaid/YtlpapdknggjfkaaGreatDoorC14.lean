/- What steps over states do to the worlds that they tell of. -/
import Derived.Test.YtlpapdknggjfkaaGreatDoorC12
namespace Go.Proofs.YtlpapdknggjfkaaGreatDoor
open Go.RowKit
set_option linter.unusedVariables false
set_option linter.unusedSimpArgs false
set_option linter.unusedSectionVars false
variable [Sy]

theorem cl_row {h : Heap} {n i : Nat} {x : AV} (e : cl h n i = some x) : ∃ el z sz o, mt h n = .row el z sz o := by
  unfold cl at e
  unfold mt
  cases hb : h.get n with
  | none => rw [hb] at e; cases e
  | some b =>
    rw [hb] at e
    cases b with
    | row el z sz cs o => exact ⟨el, z, sz, o, rfl⟩
    | mp es => cases e
    | dead => cases e
theorem okfz_frozen {w : World} {b i : Nat} {arr : Array Value} {el : TypeId} {fz : Nat × Nat} (hb : w.heap[b]? = some (.cells arr el fz)) (hu : okfz fz arr.size) (hi : i < arr.size) : w.frozen? ⟨b, i, none⟩ = false := by
  unfold World.frozen?
  rw [hb]
  obtain ⟨lo, hi2⟩ := fz
  unfold okfz at hu
  dsimp only at hu ⊢
  by_cases h1 : lo ≤ i
  · have : ¬ i < hi2 := fun h2 => by rcases hu with h | h <;> omega
    simp [this]
  · simp [h1]
/-- A cell that is told. -/
theorem Rep.cell {B : Nat} {ρ : Pm} {h : Heap} {w : World} (hr : Rep B ρ h w) {n i : Nat} {x : AV} (e : cl h n i = some x) :
    ∃ b f c v arr el fz, ρ n = some (b, f, c) ∧ B ≤ b ∧ w.heap[b]? = some (.cells arr el fz) ∧ arr[f + i]? = some v ∧ w.cell? ⟨b, f + i, none⟩ = some v ∧ x.rp ρ v ∧ w.frozen? ⟨b, f + i, none⟩ = false := by
  obtain ⟨el, z, sz, o, hm⟩ := cl_row e
  obtain ⟨b, f, c, ob, h1, h2, h3, h4⟩ := hr.live n (by rw [hm]; rfl)
  rw [hm] at h4
  obtain ⟨arr, fz, rfl, h0, h5, _⟩ := h4
  obtain ⟨v, h6, h7⟩ := h5 i x e
  refine ⟨b, f, c, v, arr, el, fz, h1, h2, h3, h6, ?_, h7, okfz_frozen h3 h0 (Array.getElem?_eq_some_iff.1 h6).1⟩
  unfold World.cell?
  rw [h3]
  simpa using h6
theorem rdC_ok {n i lo : Nat} {h : Heap} {c : Nat} {lg : List Ev} {x : AV} {h' : Heap} {c' : Nat} {lg' : List Ev} (e : rdC n i lo h c lg = .ok x h' c' lg') : h' = h ∧ c' = c ∧ cl h n i = some x := by
  obtain ⟨e1, e2, _⟩ := prim_ok e
  cases hx : cl h n i with
  | none => rw [hx] at e1; cases e1
  | some y =>
    rw [hx] at e1
    injection e1 with e3 e4
    exact ⟨e4.symm, e2, by rw [e3]⟩
theorem rdM_ok {n lo : Nat} {h : Heap} {c : Nat} {lg : List Ev} {x : Mta} {h' : Heap} {c' : Nat} {lg' : List Ev} (e : rdM n lo h c lg = .ok x h' c' lg') : h' = h ∧ c' = c ∧ mt h n = x := by
  obtain ⟨e1, e2, _⟩ := prim_ok e
  injection e1 with e3 e4
  exact ⟨e4.symm, e2, e3⟩
theorem rdL_ok {n k o lo : Nat} {h : Heap} {c : Nat} {lg : List Ev} {x : List AV} {h' : Heap} {c' : Nat} {lg' : List Ev} (e : rdL n k o lo h c lg = .ok x h' c' lg') : h' = h ∧ c' = c ∧ x.length = k ∧ ∀ i, i < k → cl h n (o + i) = x[i]? := by
  obtain ⟨e1, e2, _⟩ := prim_ok e
  cases hx : cells h n k o with
  | none => rw [hx] at e1; cases e1
  | some y =>
    rw [hx] at e1
    injection e1 with e3 e4
    subst e3
    obtain ⟨_, h2, h3⟩ := cells_spec hx
    exact ⟨e4.symm, e2, h2, h3⟩
theorem rdCs_zero (n o : Nat) : rdCs n 0 o = ret [] := rfl
theorem rdCs_succ (n k o : Nat) : rdCs n (k + 1) o = bnd (rdC n o) fun x => bnd (rdCs n k (o + 1)) fun l => ret (x :: l) := rfl
theorem Loc.rdCs (n : Nat) : ∀ k o, Loc (rdCs n k o)
  | 0, o => Loc.ret _
  | k + 1, o => Loc.bnd (Loc.rdC n o) fun x => Loc.bnd (Loc.rdCs n k (o + 1)) fun l => Loc.ret _
theorem rdCs_ok {n lo : Nat} : ∀ {k o : Nat} {h : Heap} {c : Nat} {lg : List Ev} {x : List AV} {h' : Heap} {c' : Nat} {lg' : List Ev}, rdCs n k o lo h c lg = .ok x h' c' lg' → h' = h ∧ c' = c ∧ x.length = k ∧ ∀ i, i < k → cl h n (o + i) = x[i]?
  | 0, o, h, c, lg, x, h', c', lg', e => by
    rw [rdCs_zero] at e
    injection e with e1 e2 e3 e4
    subst e1 e2 e3
    exact ⟨rfl, rfl, rfl, fun i hi => by omega⟩
  | k + 1, o, h, c, lg, x, h', c', lg', e => by
    rw [rdCs_succ] at e
    obtain ⟨y, h1, c1, lg1, e1, e2⟩ := bnd_ok e
    obtain ⟨l, h2, c2, lg2, e3, e4⟩ := bnd_ok e2
    injection e4 with f1 f2 f3 f4
    subst f1 f2 f3
    obtain ⟨rfl, rfl, hy⟩ := rdC_ok e1
    obtain ⟨g1, g2, g3, g4⟩ := rdCs_ok e3
    refine ⟨g1, g2, by simp [g3], fun i hi => ?_⟩
    cases i with
    | zero => simpa using hy
    | succ i =>
      have := g4 i (by omega)
      rw [show o + (i + 1) = o + 1 + i by omega, this]
      simp
theorem wrC_ok {n i lo : Nat} {x : AV} {h : Heap} {c : Nat} {lg : List Ev} {u : Unit} {h' : Heap} {c' : Nat} {lg' : List Ev} (e : wrC n i x lo h c lg = .ok u h' c' lg') :
    c' = c ∧ (∃ y, cl h n i = some y) ∧ (∀ m, mt h' m = mt h m) ∧ ∀ m j, cl h' m j = if m = n ∧ j = i then some x else cl h m j := by
  obtain ⟨e1, e2, _⟩ := prim_ok e
  obtain ⟨h1, h2, h3⟩ := wrF_ok e1
  exact ⟨e2, h1, h2, h3⟩
theorem setCell_heap (w : World) (b o : Nat) (v : Value) {arr : Array Value} {el : TypeId} {fz : Nat × Nat} (hb : w.heap[b]? = some (.cells arr el fz)) (k : Nat) :
    (w.setCell ⟨b, o, none⟩ v).heap[k]? = if k = b then some (.cells (arr.setIfInBounds o v) el fz) else w.heap[k]? := by
  unfold World.setCell
  rw [Array.getElem?_modify]
  by_cases h : k = b
  · subst h
    rw [if_pos rfl, if_pos rfl, hb]
    rfl
  · rw [if_neg (fun e => h e.symm), if_neg h]
/-- A cell, written. -/
theorem Rep.write {B : Nat} {ρ : Pm} {h h' : Heap} {w : World} (hr : Rep B ρ h w) {n i : Nat} {x y : AV} (hy : cl h n i = some y) (hm : ∀ m, mt h' m = mt h m) (hc : ∀ m j, cl h' m j = if m = n ∧ j = i then some x else cl h m j)
    {b f c : Nat} (hn : ρ n = some (b, f, c)) {v : Value} (hx : x.rp ρ v) : Rep B ρ h' (w.setCell ⟨b, f + i, none⟩ v) ∧ Below B w (w.setCell ⟨b, f + i, none⟩ v) := by
  obtain ⟨b', f', c2, v0, arr, el, fz, g1, g2, g3, g4, g5, g6, g7⟩ := hr.cell hy
  rw [hn] at g1
  injection g1 with g1
  injection g1 with g1 g8
  injection g8 with g8 g9
  subst g1 g8 g9
  have hh := setCell_heap w b (f + i) v g3
  have hlt : b < w.heap.size := (Array.getElem?_eq_some_iff.1 g3).1
  have hsz : f + i < arr.size := (Array.getElem?_eq_some_iff.1 g4).1
  have bel : Below B w (w.setCell ⟨b, f + i, none⟩ v) := by
    refine ⟨rfl, rfl, rfl, by simp [World.setCell], fun k hk => ?_⟩
    rw [hh, if_neg (by omega)]
  refine ⟨⟨?_, fun m hl => ?_, fun m hl => hr.free m ((hm m).symm.trans hl), fun m k p1 p2 p3 p4 p5 h1 h2 => hr.apart m k p1 p2 p3 p4 p5 (by rw [← hm]; exact h1) (by rw [← hm]; exact h2), Sy.keep hr.inv bel⟩, bel⟩
  · have := hr.size
    simp only [World.setCell, Array.size_modify]
    exact this
  · rw [hm] at hl
    obtain ⟨bm, fm, cm, ob, k1, k2, k3, k4⟩ := hr.live m hl
    by_cases hmn : m = n
    · subst hmn
      rw [hn] at k1
      injection k1 with k1
      injection k1 with k1 k5
      injection k5 with k5 k6
      subst k1 k5 k6
      rw [g3] at k3
      injection k3 with k3
      subst k3
      refine ⟨b, f, c, .cells (arr.setIfInBounds (f + i) v) el fz, hn, k2, by rw [hh, if_pos rfl], ?_⟩
      rw [hm]
      obtain ⟨el2, z, sz, o, hrow⟩ := cl_row hy
      rw [hrow] at k4 ⊢
      obtain ⟨arr2, fz2, q1, q0, q2, q3⟩ := k4
      injection q1 with q1 q4 q5
      subst q1 q4 q5
      refine ⟨_, fz, rfl, by simpa using q0, fun j u hu => ?_, fun ho => ?_⟩
      · rw [hc] at hu
        by_cases hj : j = i
        · rw [if_pos ⟨rfl, hj⟩] at hu
          injection hu with hu
          subst hj hu
          exact ⟨v, by rw [Array.getElem?_setIfInBounds, if_pos rfl, if_pos hsz], hx⟩
        · rw [if_neg (fun hh => hj hh.2)] at hu
          obtain ⟨v1, r1, r2⟩ := q2 j u hu
          exact ⟨v1, by rw [Array.getElem?_setIfInBounds, if_neg (by omega)]; exact r1, r2⟩
      · obtain ⟨r1, r2⟩ := q3 ho
        exact ⟨by simpa using r1, r2⟩
    · have hbm : bm ≠ b := fun e => hmn (hr.apart m n b fm cm f c hl (by obtain ⟨el2, z, sz, o, hrow⟩ := cl_row hy; rw [hrow]; rfl) (e ▸ k1) hn)
      refine ⟨bm, fm, cm, ob, k1, k2, by rw [hh, if_neg hbm]; exact k3, ?_⟩
      rw [hm, show cl h' m = cl h m from funext fun j => by rw [hc, if_neg (fun hh => hmn hh.1)]]
      exact k4
/-- A new block. -/
theorem Rep.new {B : Nat} {ρ : Pm} {h : Heap} {w : World} (hr : Rep B ρ h w) {n : Nat} (hn : h.get n = none) {b : Blk} (hb : b.mta.live = true) {c : Nat} {o : Obj}
    (ho : ∀ ρ', ρ.le ρ' → repB ρ' 0 c b.mta (cellOf (some b)) o) : ∃ ρ', ρ.le ρ' ∧ ρ' n = some (w.heap.size, 0, c) ∧ Rep B ρ' (h.set n b) (w.alloc o) ∧ Below B w (w.alloc o) := by
  let ρ' : Pm := fun m => if m = n then some (w.heap.size, 0, c) else ρ m
  have hfree := hr.free n (get_none.1 hn)
  have hle : ρ.le ρ' := fun m p hp => by
    show (if m = n then _ else ρ m) = _
    rw [if_neg (fun e => by rw [e, hfree] at hp; cases hp)]
    exact hp
  have hn' : ρ' n = some (w.heap.size, 0, c) := if_pos rfl
  have hheap : ∀ k, (w.alloc o).heap[k]? = if k = w.heap.size then some o else w.heap[k]? := fun k => by
    show (w.heap.push o)[k]? = _
    rw [Array.getElem?_push]
  have hold : ∀ m, m ≠ n → ρ' m = ρ m := fun m hm => if_neg hm
  have hlt : ∀ m b f c, (mt h m).live = true → ρ m = some (b, f, c) → b < w.heap.size := fun m b f c hl hp => by
    obtain ⟨bm, fm, cm, ob, k1, k2, k3, k4⟩ := hr.live m hl
    rw [hp] at k1
    injection k1 with k1
    injection k1 with k1 _
    subst k1
    exact (Array.getElem?_eq_some_iff.1 k3).1
  have bel : Below B w (w.alloc o) := (Below.refl _ _).alloc hr.size o
  refine ⟨ρ', hle, hn', ⟨?_, fun m hl => ?_, fun m hl => ?_, fun m k p1 p2 p3 p4 p5 h1 h2 q1 q2 => ?_, Sy.keep hr.inv bel⟩, bel⟩
  · have := hr.size
    show B ≤ (w.heap.push o).size
    rw [Array.size_push]
    omega
  · by_cases hm : m = n
    · subst hm
      refine ⟨w.heap.size, 0, c, o, hn', hr.size, by rw [hheap, if_pos rfl], ?_⟩
      rw [mt_set, if_pos rfl, show cl (h.set m b) m = cellOf (some b) from funext fun j => by rw [cl_set, if_pos rfl]]
      exact ho ρ' hle
    · rw [mt_set, if_neg hm] at hl
      obtain ⟨bm, fm, cm, ob, k1, k2, k3, k4⟩ := hr.live m hl
      have := hlt m bm fm cm hl k1
      refine ⟨bm, fm, cm, ob, (hold m hm).trans k1, k2, by rw [hheap, if_neg (by omega)]; exact k3, ?_⟩
      rw [mt_set, if_neg hm, show cl (h.set n b) m = cl h m from funext fun j => by rw [cl_set, if_neg hm]]
      exact repB_mono hle k4
  · by_cases hm : m = n
    · subst hm
      rw [mt_set, if_pos rfl] at hl
      rw [hl] at hb
      cases hb
    · rw [mt_set, if_neg hm] at hl
      exact (hold m hm).trans (hr.free m hl)
  · by_cases hm : m = n
    · by_cases hk : k = n
      · rw [hm, hk]
      · exfalso
        rw [mt_set, if_neg hk] at h2
        rw [hold k hk] at q2
        rw [hm, hn'] at q1
        injection q1 with q1
        injection q1 with q1 _
        have := hlt k _ _ _ h2 q2
        omega
    · by_cases hk : k = n
      · exfalso
        rw [mt_set, if_neg hm] at h1
        rw [hold m hm] at q1
        rw [hk, hn'] at q2
        injection q2 with q2
        injection q2 with q2 _
        have := hlt m _ _ _ h1 q1
        omega
      · rw [mt_set, if_neg hm] at h1
        rw [mt_set, if_neg hk] at h2
        rw [hold m hm] at q1
        rw [hold k hk] at q2
        exact hr.apart m k p1 p2 p3 p4 p5 h1 h2 q1 q2
end Go.Proofs.YtlpapdknggjfkaaGreatDoor

