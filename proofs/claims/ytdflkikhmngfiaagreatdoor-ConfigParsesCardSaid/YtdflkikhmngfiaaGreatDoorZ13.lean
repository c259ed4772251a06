/- EyMa · EyOl: joined by a program, for a claim has at most 60 files. -/
import Derived.Test.YtdflkikhmngfiaaGreatDoorZ09
import Derived.Test.YtdflkikhmngfiaaGreatDoorZ11
/- Values as expressions, by their shapes. -/
namespace Go.Proofs.YtdflkikhmngfiaaGreatDoor
open Go.RowKit
set_option linter.unusedVariables false
set_option linter.unusedSimpArgs false
set_option linter.unusedSectionVars false
variable [Sy] [Dc] [DcOK]
section
variable {ρ : Pm}
theorem xl_rp {x : AV} {p : List Sh × Xp} (e : xl x = some p) {v : Value} (h : x.rp ρ v) : Sh.rp ρ.fz (.lst p.1) p.2.den v := by
  unfold xl at e
  split at e
  · injection e with e; subst e; simpa only [AV.rp] using h
  · injection e with e; subst e; simp only [AV.rp] at h; exact h.1
  · cases e
end
mutual
theorem eqSh_eq : ∀ {s t : Sh}, eqSh s t = true → s = t
  | .int k, t, h => by cases t <;> first | (have h : decide (k = _) = true := h; rw [of_decide_eq_true h]) | cases h
  | .bool, t, h => by cases t <;> first | rfl | cases h
  | .str, t, h => by cases t <;> first | rfl | cases h
  | .lst l, t, h => by
    cases t with
    | lst m => rw [eqShs_eq' (l := l) (m := m) h]
    | _ => cases h
theorem eqShs_eq' : ∀ {l m : List Sh}, (Sh.rec_1 (motive_1 := fun _ => Sh → Bool) (motive_2 := fun _ => List Sh → Bool)
    (fun k t => match t with | .int k' => decide (k = k') | _ => false)
    (fun t => match t with | .bool => true | _ => false)
    (fun t => match t with | .str => true | _ => false)
    (fun _ ih t => match t with | .lst m => ih m | _ => false)
    (fun m => match m with | [] => true | _ => false)
    (fun _ _ ih1 ih2 m => match m with | y :: m => ih1 y && ih2 m | _ => false) l) m = true → l = m
  | [], m, h => by cases m <;> first | rfl | cases h
  | x :: l, m, h => by
    cases m with
    | nil => cases h
    | cons y m =>
      have h : (eqSh x y && _) = true := h
      rw [Bool.and_eq_true] at h
      rw [eqSh_eq h.1, eqShs_eq' h.2]
end
theorem eqShs_eq : ∀ {l m : List Sh}, eqShs l m = true → l = m
  | [], m, h => by cases m <;> first | rfl | cases h
  | x :: l, m, h => by
    cases m with
    | nil => cases h
    | cons y m =>
      have h : (eqSh x y && eqShs l m) = true := h
      rw [Bool.and_eq_true] at h
      rw [eqSh_eq h.1, eqShs_eq h.2]
theorem matS_rp {ρ : Pm} {s : Sh} {x : AV} {e : Xp} (h : matS s x = some e) {v : Value} (hx : x.rp ρ v) : s.rp ρ.fz e.den v := by
  cases s with
  | int k =>
    obtain ⟨p, h1, h2⟩ := bind_some' h
    obtain ⟨h3, h4⟩ := bif_some h2
    injection h4 with h4
    have h3 : p.1 = k := of_decide_eq_true h3
    simp only [Sh.rp]
    rw [xi_rp h1 hx, h3, h4]
  | str => simp only [Sh.rp]; exact xs_rp h hx
  | bool => simp only [Sh.rp]; exact xb_rp h hx
  | lst el =>
    unfold matS at h
    dsimp only at h
    split at h
    · injection h with h
      subst h
      simp only [AV.rp] at hx
      simp only [Sh.rp]
      exact ⟨none, 0, hx, Nat.le_refl _, .inl rfl⟩
    · injection h with h
      subst h
      simp only [AV.rp] at hx
      obtain ⟨a, c, hx⟩ := hx
      simp only [Sh.rp]
      exact ⟨some a, c, hx, Nat.zero_le _, .inl rfl⟩
    · obtain ⟨p, h1, h2⟩ := bind_some' h
      obtain ⟨h3, h4⟩ := bif_some h2
      injection h4 with h4
      rw [← eqShs_eq h3, ← h4]
      exact xl_rp h1 hx
end Go.Proofs.YtdflkikhmngfiaaGreatDoor


/- Lists of one's own that grow: append, in the program. -/
namespace Go.Proofs.YtdflkikhmngfiaaGreatDoor
open Go.RowKit
set_option linter.unusedVariables false
set_option linter.unusedSimpArgs false
set_option linter.unusedSectionVars false
variable [Sy] [Dc] [DcOK]
/-- A row that grows, told anew: at a block that no name holds. -/
theorem Rep.tokNew {B : Nat} {ρ : Pm} {h : Heap} {w w' : World} (hr : Rep B ρ h w) {nm : Nat} (hnm : h.get nm = none) {el : TypeId} {sh : List Sh} {e : Xp} {b c : Nat} {arr : Array Value} {fz : Nat × Nat} {G : Nat → Option Value}
    (hB : B ≤ b) (hsz : w.heap.size ≤ w'.heap.size) (hoth : ∀ k, k ≠ b → k < w.heap.size → w'.heap[k]? = w.heap[k]?) (ho : w'.heap[b]? = some (.cells arr el fz)) (h1 : w'.os = w.os) (h2 : w'.tape = w.tape) (h3 : w'.output = w.output)
    (hfree : ∀ n f c, (mt h n).held = true → ρ n ≠ some (b, f, c)) (hgb : ∀ o, Sy.gh b ≠ some o) (hG1 : ∀ i v, ρ.fz b i = some v → G i = some v) (hG2 : ∀ i v, G i = some v → arr[i]? = some v) (hG3 : ∀ i, e.den.l.length * sh.length ≤ i → G i = none)
    (hok : okfz fz arr.size) (hc : arr.size = c * sh.length) (hc0 : 0 < c * sh.length) (hlen : e.den.l.length ≤ c) :
    ∃ ρ' : Pm, ρ.le ρ' ∧ ρ' nm = some (b, 0, c) ∧ (∀ i, ρ'.fz b i = G i) ∧ Rep B ρ' (h.set nm (.tok el sh e)) w' ∧ Below B w w' := by
  have hnone := hr.free nm (get_none.1 hnm)
  let ρ' : Pm := ⟨fun x => if x = nm then some (b, 0, c) else ρ x, fun b2 i => if b2 = b then G i else ρ.fz b2 i⟩
  have hle : ρ.le ρ' := ⟨fun x p hp => by
    show (if x = nm then _ else ρ x) = _
    rw [if_neg (fun e => by rw [e, hnone] at hp; cases hp)]
    exact hp, fun b2 i v hv => by
    show (if b2 = b then G i else ρ.fz b2 i) = _
    by_cases hb : b2 = b
    · rw [if_pos hb]; rw [hb] at hv; exact hG1 i v hv
    · rw [if_neg hb]; exact hv⟩
  have hn' : ρ' nm = some (b, 0, c) := if_pos rfl
  have hold : ∀ x, x ≠ nm → ρ' x = ρ x := fun x hx => if_neg hx
  have hfb : ∀ i, ρ'.fz b i = G i := fun i => if_pos rfl
  have hfo : ∀ b2, b2 ≠ b → ∀ i, ρ'.fz b2 i = ρ.fz b2 i := fun b2 hb i => if_neg hb
  have old : ∀ x, (mt (h.set nm (.tok el sh e)) x).live = true → x ≠ nm ∧ (mt h x).live = true := fun x hl => by
    rw [mt_set] at hl
    by_cases hx : x = nm
    · rw [if_pos hx] at hl; cases hl
    · rw [if_neg hx] at hl; exact ⟨hx, hl⟩
  have oldh : ∀ x, x ≠ nm → (mt (h.set nm (.tok el sh e)) x).held = true → (mt h x).held = true := fun x hx hl => by
    rw [mt_set, if_neg hx] at hl
    exact hl
  have hb' : ∀ x b2 f2 c2, (mt h x).held = true → ρ x = some (b2, f2, c2) → b2 ≠ b := fun x b2 f2 c2 hl hp e2 => hfree x f2 c2 hl (by rw [hp, e2])
  have bel : Below B w w' := ⟨h1, h2, h3, hsz, fun k hk => hoth k (by omega) (Nat.lt_of_lt_of_le hk hr.size)⟩
  refine ⟨ρ', hle, hn', hfb, ⟨Nat.le_trans hr.size hsz, fun x hl => ?_, fun x hl => ?_, fun x y bx fx cx fy cy hx hy px py => ?_, Sy.keep hr.inv bel, fun b2 i v hv => ?_, fun x b2 f2 c2 hl hp i => ?_, fun x el2 sh2 e2 hx => ?_, fun b2 i v hb2 hv => ?_, fun b2 o2 hb2 => ⟨(hoth b2 (fun e9 => hgb o2 (by rw [← e9]; exact hb2)) (hr.glt hb2)).trans (hr.gho b2 o2 hb2).1, fun x p q h9 e3 => by
    by_cases hx : x = nm
    · rw [hx, hn'] at e3
      injection e3 with e3
      injection e3 with e3 _
      exact hgb o2 (by rw [e3]; exact hb2)
    · rw [hold x hx] at e3
      exact (hr.gho b2 o2 hb2).2 x p q (oldh x hx h9) e3⟩⟩, bel⟩
  · obtain ⟨hx, hl2⟩ := old x hl
    obtain ⟨bx, fx, cx, ox, k1, k2, k3, k4⟩ := hr.live x hl2
    have hlt := (hr.lt (Mta.live_held hl2) k1).1
    refine ⟨bx, fx, cx, ox, (hold x hx).trans k1, k2, (hoth bx (hb' x bx fx cx (Mta.live_held hl2) k1) hlt).trans k3, ?_⟩
    rw [mt_set, if_neg hx, show cl (h.set nm (.tok el sh e)) x = cl h x from funext fun i => by rw [cl_set, if_neg hx]]
    exact repB_mono hle k4
  · rw [mt_set] at hl
    by_cases hx : x = nm
    · rw [if_pos hx] at hl; cases hl
    · rw [if_neg hx] at hl; exact (hold x hx).trans (hr.free x hl)
  · by_cases hxn : x = nm
    · by_cases hyn : y = nm
      · rw [hxn, hyn]
      · exfalso
        rw [hold y hyn] at py
        rw [hxn, hn'] at px
        injection px with px
        injection px with px _
        exact hb' y _ _ _ (oldh y hyn hy) py px.symm
    · by_cases hyn : y = nm
      · exfalso
        rw [hold x hxn] at px
        rw [hyn, hn'] at py
        injection py with py
        injection py with py _
        exact hb' x _ _ _ (oldh x hxn hx) px py.symm
      · rw [hold x hxn] at px
        rw [hold y hyn] at py
        exact hr.apart x y bx fx cx fy cy (oldh x hxn hx) (oldh y hyn hy) px py
  · by_cases hb2 : b2 = b
    · subst hb2
      rw [hfb] at hv
      unfold World.cell?
      rw [ho]
      exact hG2 i v hv
    · rw [hfo b2 hb2] at hv
      exact (cell_congr (hoth b2 hb2 (hr.fzlt hv)) _ _).trans (hr.frz b2 i v hv)
  · obtain ⟨hx, hl2⟩ := old x hl
    rw [hold x hx] at hp
    rw [hfo b2 (hb' x b2 f2 c2 (Mta.live_held hl2) hp)]
    exact hr.sep x b2 f2 c2 hl2 hp i
  · by_cases hxn : x = nm
    · rw [hxn, mt_set, if_pos rfl] at hx
      injection hx with q1 q2 q3
      subst q1 q2 q3
      rw [hxn]
      exact .inr ⟨b, c, arr, fz, hn', hB, ho, hok, hc, hc0, hlen, fun i hi => by rw [hfb]; exact hG3 i hi⟩
    · rw [mt_set, if_neg hxn] at hx
      have hh : (mt h x).held = true := by rw [hx]; rfl
      exact (hr.tok x el2 sh2 e2 hx).of (hold x hxn) (fun b3 f3 c3 hp i => hfo b3 (hb' x b3 f3 c3 hh hp) i) fun b3 f3 c3 hp => hoth b3 (hb' x b3 f3 c3 hh hp) (hr.lt hh hp).1
  · by_cases hb3 : b2 = b
    · omega
    · rw [hfo b2 hb3] at hv
      exact hr.low b2 i v hb2 hv
section
variable {P : Program} {B : Nat} {lo : Nat} {h : Heap} {c : Nat} {lg : List Ev} {h' : Heap} {c' : Nat} {lg' : List Ev} {ρ : Pm} {w : World}
/-- Rows stand in cells. -/
def rowsOK (F : Fz) (el : List Sh) (L : List PV) (vs : List Value) : Prop := vs.length = L.length * el.length ∧ ∀ i x, L[i]? = some x → Sh.rps F el (x.row el.length) fun j => vs[i * el.length + j]?
theorem rps_shift {F : Fz} : ∀ {el : List Sh} {c : List PV} {f f' : Nat → Option Value}, (∀ j v, j < el.length → f j = some v → f' j = some v) → Sh.rps F el c f → Sh.rps F el c f'
  | [], c, f, f', hf, hx => by simp only [Sh.rps]
  | s :: el, c, f, f', hf, hx => by
    simp only [Sh.rps] at hx ⊢
    obtain ⟨⟨u, h1, h2⟩, h3⟩ := hx
    exact ⟨⟨u, hf _ _ (by simp) h1, h2⟩, rps_shift (fun j v hj hv => hf (j + 1) v (by simpa using hj) hv) h3⟩
theorem rps_cell {F : Fz} : ∀ {el : List Sh} {c : List PV} {f : Nat → Option Value}, Sh.rps F el c f → ∀ j, j < el.length → ∃ v, f j = some v
  | [], c, f, hx, j, hj => by simp at hj
  | s :: el, c, f, hx, j, hj => by
    simp only [Sh.rps] at hx
    obtain ⟨⟨u, h1, h2⟩, h3⟩ := hx
    cases j with
    | zero => exact ⟨u, h1⟩
    | succ j => exact rps_cell h3 j (by simpa using hj)
/-- A list's cells, out of memory that stays. -/
theorem lst_rows (hr : Rep B ρ h w) {el : List Sh} {L : List PV} {b o : Nat} (hk : 0 < el.length) (hl : ∀ i x, L[i]? = some x → Sh.rps ρ.fz el (x.row el.length) fun j => ρ.fz b (o + i * el.length + j)) :
    ∃ vs : List Value, rowsOK ρ.fz el L vs ∧ (∀ i, i < L.length * el.length → ρ.fz b (o + i) = vs[i]?) ∧ ∀ w2 : World, (∀ i v, ρ.fz b i = some v → w2.cell? ⟨b, i, none⟩ = some v) → (loadCells ⟨b, o, none⟩ (L.length * el.length)).run P w2 = .ok vs.toArray w2 := by
  have hcell : ∀ i, i < L.length * el.length → ∃ v, ρ.fz b (o + i) = some v := fun i hi => by
    have h1 : i / el.length < L.length := by
      rw [Nat.div_lt_iff_lt_mul hk]; exact hi
    obtain ⟨v, hv⟩ := rps_cell (hl _ _ (List.getElem?_eq_getElem h1)) (i % el.length) (Nat.mod_lt _ hk)
    refine ⟨v, ?_⟩
    rw [Nat.add_assoc, Nat.mul_comm, Nat.div_add_mod] at hv
    exact hv
  let vs := (List.range (L.length * el.length)).map fun i => (ρ.fz b (o + i)).getD undef
  have hvs : ∀ i, i < L.length * el.length → ρ.fz b (o + i) = vs[i]? := fun i hi => by
    obtain ⟨v, hv⟩ := hcell i hi
    show _ = ((List.range (L.length * el.length)).map fun i => (ρ.fz b (o + i)).getD undef)[i]?
    rw [List.getElem?_map, List.getElem?_range hi, Option.map_some, hv]
    rfl
  refine ⟨vs, ⟨by simp [vs], fun i x hx => rps_shift (fun j v hj hv => ?_) (hl i x hx)⟩, hvs, fun w2 h2 => ?_⟩
  · have hi : i < L.length := (List.getElem?_eq_some_iff.1 hx).1
    have : i * el.length + j < L.length * el.length := by
      have := Nat.mul_le_mul_right el.length (show i + 1 ≤ L.length from hi)
      rw [Nat.add_mul] at this
      omega
    rw [← hvs _ this, ← Nat.add_assoc]
    exact hv
  · exact run_loadCells w2 _ _ _ fun j hj => by
      obtain ⟨v, hv⟩ := hcell j hj
      rw [addr_add, h2 _ _ hv, hv]
      rfl
/-- Rows behind rows. -/
theorem rowsOK.append {F : Fz} {el : List Sh} {L M : List PV} {a b : List Value} (h : rowsOK F el L a) (k : rowsOK F el M b) : rowsOK F el (L ++ M) (a ++ b) := by
  refine ⟨by rw [List.length_append, h.1, k.1, List.length_append, Nat.add_mul], fun i x hx => ?_⟩
  by_cases hi : i < L.length
  · rw [List.getElem?_append_left hi] at hx
    refine rps_shift (fun j v hj hv => ?_) (h.2 i x hx)
    rw [List.getElem?_append_left (List.getElem?_eq_some_iff.1 hv).1]
    exact hv
  · rw [List.getElem?_append_right (by omega)] at hx
    refine rps_shift (fun j v hj hv => ?_) (k.2 _ x hx)
    have hle : L.length * el.length ≤ i * el.length := Nat.mul_le_mul_right _ (by omega)
    rw [List.getElem?_append_right (by rw [h.1]; omega), h.1, show i * el.length + j - L.length * el.length = (i - L.length) * el.length + j by rw [Nat.sub_mul]; omega]
    exact hv
theorem rowsOK.mono {F F' : Fz} (hF : F.le F') {el : List Sh} {L : List PV} {a : List Value} (h : rowsOK F el L a) : rowsOK F' el L a := ⟨h.1, fun i x hx => Sh.rps.mono hF (fun _ _ h => h) (h.2 i x hx)⟩
theorem rows_one {F : Fz} {el : List Sh} {L : List PV} {a : List Value} (hk : 0 < el.length) (h : rowsOK F el L a) : ∀ v ∈ a, (∀ q, v ≠ .agg q) ∧ ∀ q, v ≠ .tuple q := by
  intro v hv
  obtain ⟨i, hi⟩ := List.mem_iff_getElem?.1 hv
  have hlt : i < a.length := (List.getElem?_eq_some_iff.1 hi).1
  have h1 : i / el.length < L.length := by
    rw [Nat.div_lt_iff_lt_mul hk, ← h.1]; exact hlt
  have key : ∀ {el : List Sh} {c : List PV} {f : Nat → Option Value}, Sh.rps F el c f → ∀ j v, j < el.length → f j = some v → (∀ q, v ≠ .agg q) ∧ ∀ q, v ≠ .tuple q := by
    intro el
    induction el with
    | nil => intro c f _ j v hj; simp at hj
    | cons s el ih =>
      intro c f hx j v hj hv
      simp only [Sh.rps] at hx
      obtain ⟨⟨u, k1, k2⟩, k3⟩ := hx
      cases j with
      | zero => rw [k1] at hv; injection hv with hv; subst hv; exact Sh.rp_one k2
      | succ j => exact ih k3 j v (by simpa using hj) hv
  refine key (h.2 _ _ (List.getElem?_eq_getElem h1)) (i % el.length) v (Nat.mod_lt _ hk) ?_
  rw [Nat.mul_comm, Nat.div_add_mod]
  exact hi
/-- A list goes on, in new memory. -/
theorem own_grow {ty t t1 e : TypeId} {i : TypeInfo} {z vx : Value} {el : List Sh} {L0 L1 : List PV} {ov nv : List Value} {a : Option Addr} {cap nm : Nat} {ex : Xp} (hu : P.underlying t = some (.slice e)) (hi : P.info? e = some i) (hz : i.zero = some z) (hzs : z.cells.size = i.size) (hb : i.bytes ≤ 10000) (hK : SrcK P t1) (hk : el.length = i.size) (hk0 : 0 < el.length)
    (hr : Rep B ρ h w) (hnm : h.get nm = none) (h0 : rowsOK ρ.fz el L0 ov) (h1 : rowsOK ρ.fz el L1 nv) (hn : (Builtin.lenOf vx).run P w = .ok L1.length w) (hc : (Builtin.firstCells i.size L1.length vx).run P w.drew = .ok nv.toArray w.drew) (ho : (Builtin.firstCells i.size L0.length (.slice a L0.length cap)).run P w.drew = .ok ov.toArray w.drew)
    (hg : cap < L0.length + L1.length) (hlim : L0.length + L1.length ≤ 100000) (hex : ex.den.l = L0 ++ L1) (hpos : 0 < L1.length) :
    VRun P B (Builtin.append_ #[t, t1] ty #[.slice a L0.length cap, vx]) ρ w (.ol nm el ex) (h.set nm (.tok e el ex)) := by
  have hrun := app_grow (ty := ty) (a := a) (sLen := L0.length) (cap := cap) (olds := ov) (vs := nv) hu hK hi hz hn hc ho hg hb (by omega)
  have hge := grownCap_ge w (L0.length + L1.length) cap e
  have hall := h0.append h1
  have hlen : ex.den.l.length = L0.length + L1.length := by rw [hex, List.length_append]
  have hsz : ((ov ++ nv).toArray ++ Builtin.zeroCells z.cells (grownCap w (L0.length + L1.length) cap e - (L0.length + L1.length))).size = grownCap w (L0.length + L1.length) cap e * el.length := by
    rw [Array.size_append, zeroCells_size, hzs, List.size_toArray, hall.1, List.length_append, ← hk, ← Nat.add_mul]
    congr 1
    omega
  have hd := hr.drew
  obtain ⟨ρ', k1, k2, k3, k4, k5⟩ := hr.tokNew (w' := w.drew.alloc (.cells ((ov ++ nv).toArray ++ Builtin.zeroCells z.cells (grownCap w (L0.length + L1.length) cap e - (L0.length + L1.length))) e)) hnm (el := e) (sh := el) (e := ex) (b := w.heap.size) (c := grownCap w (L0.length + L1.length) cap e) (fz := (0, 0)) (G := fun i => (ov ++ nv)[i]?) hr.size (by show _ ≤ (w.heap.push _).size; rw [Array.size_push]; omega) (fun k hk hlt => by
      show (w.heap.push _)[k]? = _
      rw [Array.getElem?_push, if_neg hk]) (by
      show (w.heap.push _)[w.heap.size]? = _
      rw [Array.getElem?_push, if_pos rfl]) rfl rfl rfl (fun n f c hl hp => by have := (hr.lt hl hp).1; omega) (fun o ho => Nat.lt_irrefl _ (hr.glt ho)) (fun i v hv => by have := hr.fzlt hv; omega) (fun i v hv => by
      have hlt : i < (ov ++ nv).length := (List.getElem?_eq_some_iff.1 hv).1
      rw [Array.getElem?_append_left (by simpa using hlt)]
      simpa using hv) (fun i hi => by
      rw [hlen, ← List.length_append, ← hall.1] at hi
      exact List.getElem?_eq_none hi) (.inl rfl) hsz (by
      refine Nat.mul_pos ?_ hk0
      omega) (by rw [hlen]; exact hge)
  refine ⟨ρ', _, _, hrun, k1, ?_, k4, k5⟩
  simp only [AV.rp, Sh.rp]
  have hl2 : (Builtin.append_ #[t, t1] ty #[.slice a L0.length cap, vx]) = (Builtin.append_ #[t, t1] ty #[.slice a L0.length cap, vx]) := rfl
  refine ⟨⟨_, _, by rw [hlen], by rw [hlen]; exact hge, .inr ⟨w.heap.size, 0, rfl, fun i x hx => ?_⟩⟩, .inr ⟨w.heap.size, _, k2, by rw [hlen]⟩⟩
  rw [hex] at hx
  refine Sh.rps.mono k1.fz (fun j v hv => ?_) (hall.2 i x hx)
  rw [Nat.zero_add, k3]
  exact hv
/-- A list goes on where it lies. -/
theorem own_fit {ty t t1 e : TypeId} {i : TypeInfo} {vx : Value} {el : List Sh} {L0 L1 : List PV} {nv : List Value} {b cc m nm : Nat} {ex ex0 : Xp} (hu : P.underlying t = some (.slice e)) (hi : P.info? e = some i) (hK : SrcK P t1) (hk : el.length = i.size) (hk0 : 0 < el.length)
    (hr : Rep B ρ h w) (hm : mt h m = .tok e el ex0) (hρ : ρ m = some (b, 0, cc)) (hL0 : ex0.den.l = L0) (hL : Sh.rp ρ.fz (.lst el) ex0.den (.slice (some ⟨b, 0, none⟩) L0.length cc)) (hnm : (h.set m .dead).get nm = none) (h1 : rowsOK ρ.fz el L1 nv) (hn : (Builtin.lenOf vx).run P w = .ok L1.length w) (hc : (Builtin.firstCells i.size L1.length vx).run P w = .ok nv.toArray w)
    (hfit : L0.length + L1.length ≤ cc) (hex : ex.den.l = L0 ++ L1) :
    VRun P B (Builtin.append_ #[t, t1] ty #[.slice (some ⟨b, 0, none⟩) L0.length cc, vx]) ρ w (.ol nm el ex) ((h.set m .dead).set nm (.tok e el ex)) := by
  have hks : ∀ w, (sizeOf e).run P w = .ok i.size w := fun w => run_szO (by unfold szO; rw [hi]; rfl) w
  have hlen : ex.den.l.length = L0.length + L1.length := by rw [hex, List.length_append]
  rcases hr.tok m e el ex0 hm with ⟨_, h2⟩ | ⟨b2, c2, arr, fz, q1, q2, q3, q4, q5, q6, q7, q8⟩
  · rw [hρ] at h2; cases h2
  rw [hρ] at q1
  injection q1 with q1
  injection q1 with q1 q9
  injection q9 with _ q9
  subst q1 q9
  have hroom : (L0.length + L1.length) * el.length ≤ cc * el.length := Nat.mul_le_mul_right _ hfit
  have hexp : (L0.length + L1.length) * el.length = L0.length * el.length + L1.length * el.length := Nat.add_mul _ _ _
  obtain ⟨w', arr', s1, s2, s3, s4, s5, s6, s7, s8, s9⟩ := store_many (P := P) (o := L0.length * el.length) nv 0 w arr q3 q4 (by rw [h1.1]; omega) (fun v hv => rows_one hk0 h1 v hv)
  have hL2 : ∀ i x, L0[i]? = some x → Sh.rps ρ.fz el (x.row el.length) fun j => ρ.fz b (0 + i * el.length + j) := by
    simp only [Sh.rp] at hL
    obtain ⟨a, c, e1, _, hL⟩ := hL
    rw [hL0] at e1 hL
    injection e1 with e1 _ _
    rcases hL with hL | ⟨b3, o3, e3, hL⟩
    · rw [hL]; intro i x hx; simp at hx
    · rw [e3] at e1
      injection e1 with e1
      injection e1 with e1 e4
      subst e1 e4
      exact hL
  obtain ⟨ov, o1, o2, _⟩ := lst_rows (P := P) hr hk0 hL2
  have hall := o1.append h1
  have hkill := hr.kill (m := m)
  have hovl : ov.length = L0.length * el.length := o1.1
  obtain ⟨ρ', k1, k2, k3, k4, k5⟩ := hkill.tokNew (w' := w') hnm (el := e) (sh := el) (e := ex) (b := b) (c := cc) (fz := fz) (arr := arr') (G := fun i => (ov ++ nv)[i]?) q2 (by rw [s6]; exact Nat.le_refl _) (fun k hk _ => s5 k hk) s2 s7 s8 s9 (fun n f c hl hp => by
      have hne : n ≠ m := fun e => by rw [e, mt_set, if_pos rfl] at hl; cases hl
      rw [mt_set, if_neg hne] at hl
      exact hne (hr.apart n m b f c 0 cc hl (by rw [hm]; rfl) hp hρ)) (fun o ho => hr.gne (by rw [hm]; rfl) hρ ho rfl) (fun i v hv => by
      have hi : i < L0.length * el.length := by
        rcases Nat.lt_or_ge i (L0.length * el.length) with h | h
        · exact h
        · rw [q8 i (by rw [hL0]; exact h)] at hv; cases hv
      rw [List.getElem?_append_left (by rw [hovl]; exact hi), ← o2 i hi, Nat.zero_add]
      exact hv) (fun i v hv => by
      rw [s4]
      by_cases hi : i < ov.length
      · rw [List.getElem?_append_left hi] at hv
        rw [if_neg (by rw [hovl] at hi; omega)]
        rw [hovl] at hi
        have hf : ρ.fz b (0 + i) = some v := (o2 i hi).trans hv
        have := hr.frz b _ v hf
        unfold World.cell? at this
        rw [q3] at this
        simpa using this
      · rw [List.getElem?_append_right (by omega)] at hv
        have hlt : i - ov.length < nv.length := (List.getElem?_eq_some_iff.1 hv).1
        rw [if_pos (by rw [hovl] at hi hlt; omega), show i - (L0.length * el.length + 0) = i - ov.length by rw [hovl]; omega]
        exact hv) (fun i hi => by
      rw [hlen, ← List.length_append, ← hall.1] at hi
      exact List.getElem?_eq_none hi) (by rw [s3]; exact q4) (by rw [s3]; exact q5) q6 (by rw [hlen]; exact hfit)
  refine ⟨ρ', .slice (some ⟨b, 0, none⟩) (L0.length + L1.length) cc, w', app_fit hu hK hks hn hc hfit ?_, k1, ?_, k4, k5⟩
  · rw [addr_add, Nat.zero_add, ← hk]; exact s1
  simp only [AV.rp, Sh.rp]
  refine ⟨⟨_, _, by rw [hlen], by rw [hlen]; exact hfit, .inr ⟨b, 0, rfl, fun i x hx => ?_⟩⟩, .inr ⟨b, _, k2, by rw [hlen]⟩⟩
  rw [hex] at hx
  refine Sh.rps.mono k1.fz (fun j v hv => ?_) (hall.2 i x hx)
  rw [Nat.zero_add, k3]
  exact hv
theorem preD_ok {c0 : Xp} {g : M AV} {x : AV} (e : preD c0 g lo h c lg = .ok x h' c' lg') : c0.den = .bool true ∧ g lo h c lg = .ok x h' c' lg' := by
  have e : Option.rec (motive := fun _ => M AV) (fail (88 :: c0.enc [])) (fun b => Bool.rec (motive := fun _ => M AV) (fail [302]) g b) (Dc.dec c0) lo h c lg = .ok x h' c' lg' := e
  cases hd : Dc.dec c0 with
  | none => rw [hd] at e; cases e
  | some b =>
    rw [hd] at e
    cases b with
    | false => cases e
    | true => exact ⟨DcOK.ok _ _ hd, e⟩
/-- Something is appended to a list of one's own, or to none. -/
theorem addO_snd {ty t t1 e : TypeId} {i : TypeInfo} {z vs vx : Value} {el : List Sh} {s y : AV} {ex : Xp} {L1 : List PV} (hu : P.underlying t = some (.slice e)) (hi : P.info? e = some i) (hz : i.zero = some z) (hzs : z.cells.size = i.size) (hb : i.bytes ≤ 10000) (hK : SrcK P t1) (hk : el.length = i.size) (hk0 : 0 < el.length)
    (hr : Rep B ρ h w) (e1 : addO e el s ex lo h c lg = .ok y h' c' lg') (hs : s.rp ρ vs) (hel : s = .nils ∨ ∃ m e0, s = .ol m el e0) (hex : ex.den.l = (exO s).den.l ++ L1) (hpos : 0 < L1.length) (hn : (Builtin.lenOf vx).run P w = .ok L1.length w)
    (hsrc : ∀ w2, Rep B ρ h w2 → ∃ nv : List Value, (Builtin.firstCells i.size L1.length vx).run P w2 = .ok nv.toArray w2 ∧ rowsOK ρ.fz el L1 nv) : VRun P B (Builtin.append_ #[t, t1] ty #[vs, vx]) ρ w y h' := by
  obtain ⟨hlim, e1⟩ := preD_ok e1
  have hlim : (ex.den.l.length : Int) ≤ 100000 := by
    injection hlim with hlim
    rw [Bool.and_eq_true, Bool.and_eq_true, decide_eq_true_eq, decide_eq_true_eq, decide_eq_true_eq] at hlim
    exact hlim.2.2
  rw [hex, List.length_append] at hlim
  obtain ⟨nv2, m1, m2⟩ := hsrc w.drew hr.drew
  have none0 : ∀ {h0 : Heap} {nm : Nat}, Rep B ρ h0 w → h0.get nm = none → ex.den.l = [] ++ L1 → VRun P B (Builtin.append_ #[t, t1] ty #[.slice none 0 0, vx]) ρ w (.ol nm el ex) (h0.set nm (.tok e el ex)) := fun {h0 nm} hr0 hnm hex0 =>
    own_grow (L0 := []) (ov := []) (a := none) (cap := 0) hu hi hz hzs hb hK hk hk0 hr0 hnm ⟨by simp, fun i x hx => by simp at hx⟩ m2 hn m1 rfl (by simpa using hpos) (by simp; omega) hex0 hpos
  rcases hel with rfl | ⟨m, e0, rfl⟩
  · simp only [AV.rp] at hs
    subst hs
    obtain ⟨nm, h2, c2, lg2, e2, e3⟩ := bnd_ok (show bnd (new (.tok e el ex)) (fun c => ret (AV.ol c el ex)) lo h c lg = .ok y h' c' lg' from e1)
    obtain ⟨rfl, rfl, _, _⟩ := ret_ok e3
    obtain ⟨h0, rfl, rfl, _, _⟩ := new_ok e2
    exact none0 hr h0 hex
  · obtain ⟨mm, h2, c2, lg2, e2, e3⟩ := bnd_ok (show bnd (rdM m) (fun mm => match mm with
      | .tok e2 sh2 ex2 => want (Nat.beq e2 e && (eqShs sh2 el && eqX ex2 e0)) 310 (bnd (wrB m .dead) fun _ => bnd (new (.tok e el ex)) fun c => ret (AV.ol c el ex))
      | _ => fail [311]) lo h c lg = .ok y h' c' lg' from e1)
    obtain ⟨rfl, _, hmm⟩ := rdM_ok e2
    cases mm with
    | tok t2 sh2 ex2 =>
      obtain ⟨hw, e30⟩ := want_ok (show want (Nat.beq t2 e && (eqShs sh2 el && eqX ex2 e0)) 310 (bnd (wrB m .dead) fun _ => bnd (new (.tok e el ex)) fun c => ret (AV.ol c el ex)) lo h2 c2 lg2 = .ok y h' c' lg' from e3)
      rw [Bool.and_eq_true, Bool.and_eq_true, Nat.beq_eq] at hw
      obtain ⟨q1, q2, q3⟩ := hw
      have q2 := eqShs_eq q2
      have q3 := eqX_eq q3
      subst q1 q2 q3
      obtain ⟨u, h3, c3, lg3, e4, e5⟩ := bnd_ok e30
      obtain ⟨nm, h4, c4, lg4, e6, e7⟩ := bnd_ok e5
      obtain ⟨rfl, rfl, _, _⟩ := ret_ok e7
      have hkill : h3 = Tr.set h2 m .dead := by
        obtain ⟨e13, _, _⟩ := prim_ok e4
        cases hg : h2.get m with
        | none => rw [hg] at e13; cases e13
        | some b0 => rw [hg] at e13; injection e13 with _ e13; exact e13.symm
      subst hkill
      obtain ⟨h0, rfl, rfl, _, _⟩ := new_ok e6
      simp only [AV.rp] at hs
      obtain ⟨hsl, hs2⟩ := hs
      rcases hs2 with ⟨hnil, rfl⟩ | ⟨b, cc, hρ, rfl⟩
      · exact none0 hr.kill h0 (by rw [hex]; show ex2.den.l ++ L1 = _; rw [hnil])
      · by_cases hfit : ex2.den.l.length + L1.length ≤ cc
        · obtain ⟨nv, n1, n2⟩ := hsrc w hr
          exact own_fit hu hi hK hk hk0 hr hmm hρ rfl hsl h0 n2 hn n1 hfit hex
        · have hL2 : ∀ i x, ex2.den.l[i]? = some x → Sh.rps ρ.fz sh2 (x.row sh2.length) fun j => ρ.fz b (0 + i * sh2.length + j) := by
            simp only [Sh.rp] at hsl
            obtain ⟨a, c, e1, _, hL⟩ := hsl
            injection e1 with e1 _ _
            rcases hL with hL | ⟨b3, o3, e3, hL⟩
            · rw [hL]; intro i x hx; simp at hx
            · rw [e3] at e1
              injection e1 with e1
              injection e1 with e1 e4
              subst e1 e4
              exact hL
          obtain ⟨ov, o1, _, o3⟩ := lst_rows (P := P) hr hk0 hL2
          refine own_grow (a := some ⟨b, 0, none⟩) (cap := cc) (L0 := ex2.den.l) hu hi hz hzs hb hK hk hk0 hr.kill h0 o1 m2 hn m1 ?_ (by omega) (by have : (exO (AV.ol m sh2 ex2)).den.l = ex2.den.l := rfl; rw [this] at hlim; omega) hex hpos
          rw [← hk]
          exact o3 w.drew fun i v hv => hr.drew.frz b i v hv
    | _ => cases e3
theorem matC_rps : ∀ {l : List Sh} {m : List AV} {e : Xp} (h : matC l m = some e) {vs : List Value} (hx : AV.rps ρ m vs), vs.length = l.length ∧ Sh.rps ρ.fz l e.den.t fun j => vs[j]?
  | [], m, e, h, vs, hx => by
    cases m with
    | nil => rw [rps_nil] at hx; subst hx; exact ⟨rfl, by simp only [Sh.rps]⟩
    | cons _ _ => cases h
  | s :: l, m, e, h, vs, hx => by
    cases m with
    | nil => cases h
    | cons x m =>
      obtain ⟨e1, h1, h2⟩ := bind_some' (show (matS s x).bind (fun e => (matC l m).bind fun r => some (.cons e r)) = some e from h)
      obtain ⟨e2, h3, h4⟩ := bind_some' h2
      injection h4 with h4
      subst h4
      rw [rps_cons] at hx
      obtain ⟨y, m', rfl, k1, k2⟩ := hx
      obtain ⟨g1, g2⟩ := matC_rps h3 k2
      refine ⟨by simp [g1], ?_⟩
      simp only [Sh.rps]
      exact ⟨⟨y, rfl, matS_rp h1 k1⟩, g2⟩
theorem matRow_rps {el : List Sh} {m : List AV} {e : Xp} (h : matRow el m = some e) {vs : List Value} (hx : AV.rps ρ m vs) : vs.length = el.length ∧ Sh.rps ρ.fz el (e.den.row el.length) fun j => vs[j]? := by
  unfold matRow at h
  split at h
  · split at h
    · rename_i s x
      rw [rps_cons] at hx
      obtain ⟨v, m', rfl, hv, hx⟩ := hx
      rw [rps_nil] at hx
      subst hx
      refine ⟨rfl, ?_⟩
      simp only [Sh.rps]
      exact ⟨⟨v, rfl, matS_rp h hv⟩, trivial⟩
    · cases h
  · rename_i hne
    obtain ⟨g1, g2⟩ := matC_rps h hx
    refine ⟨g1, ?_⟩
    have : e.den.row el.length = e.den.t := by
      unfold PV.row
      split
      · rename_i h1
        obtain ⟨s, rfl⟩ := List.length_eq_one_iff.1 h1
        exact absurd rfl (hne s)
      · rfl
    rw [this]
    exact g2
theorem rowsX_succ (el : List Sh) (k n : Nat) (ex : Xp) (l : List AV) : rowsX el k (n + 1) ex l = (matRow el (takeL k l)).bind fun r => rowsX el k n (.snoc ex r) (dropL k l) := rfl
theorem rowsX_snd {el : List Sh} : ∀ {n : Nat} {ex0 ex : Xp} {l : List AV}, rowsX el el.length n ex0 l = some ex → ∃ L1 : List PV, ex.den.l = ex0.den.l ++ L1 ∧ L1.length = n ∧ ∀ vs, AV.rps ρ l vs → rowsOK ρ.fz el L1 vs
  | 0, ex0, ex, l, h => by
    cases l with
    | nil =>
      injection (show some ex0 = some ex from h) with h
      subst h
      exact ⟨[], by simp, rfl, fun vs hv => by rw [rps_nil] at hv; subst hv; exact ⟨by simp, fun i x hx => by simp at hx⟩⟩
    | cons _ _ => cases h
  | n + 1, ex0, ex, l, h => by
    rw [rowsX_succ] at h
    obtain ⟨r, h1, h2⟩ := bind_some' h
    obtain ⟨L, h3, h4, h5⟩ := rowsX_snd h2
    refine ⟨r.den :: L, ?_, by simp [h4], fun vs hv => ?_⟩
    · rw [h3]
      show (ex0.den.l ++ [r.den]) ++ L = _
      simp
    · have k1 := rps_take hv el.length
      have k2 := rps_drop hv el.length
      rw [← takeL_eq] at k1
      rw [← dropL_eq] at k2
      obtain ⟨g1, g2⟩ := matRow_rps h1 k1
      have hone : rowsOK ρ.fz el [r.den] (vs.take el.length) := by
        refine ⟨by rw [g1]; simp, fun i x hx => ?_⟩
        cases i with
        | zero => simp at hx; subst hx; simpa using g2
        | succ i => simp at hx
      have := hone.append (h5 _ k2)
      rwa [List.take_append_drop] at this
theorem emptyD_ok {src : Xp} {s : AV} {g : M AV} {x : AV} (e : emptyD src s g lo h c lg = .ok x h' c' lg') : (src.den.l.length = 0 ∧ ret s lo h c lg = .ok x h' c' lg') ∨ (0 < src.den.l.length ∧ g lo h c lg = .ok x h' c' lg') := by
  have e : Option.rec (motive := fun _ => M AV) (fail (88 :: (Xp.cmpi .eql (.lenl src) (.int 0)).enc [])) (fun b => Bool.rec (motive := fun _ => M AV) g (ret s) b) (Dc.dec (.cmpi .eql (.lenl src) (.int 0))) lo h c lg = .ok x h' c' lg' := e
  cases hd : Dc.dec (.cmpi .eql (.lenl src) (.int 0)) with
  | none => rw [hd] at e; cases e
  | some b =>
    rw [hd] at e
    have hb := DcOK.ok _ _ hd
    injection hb with hb
    have hb : decide ((src.den.l.length : Int) = 0) = b := hb
    cases b with
    | false => right; have := of_decide_eq_false hb; exact ⟨by omega, e⟩
    | true => left; have := of_decide_eq_true hb; exact ⟨by omega, e⟩
theorem app_zero {ty t t1 e : TypeId} {k : Nat} {vx : Value} {a : Option Addr} {sLen cap : Nat} (hu : P.underlying t = some (.slice e)) (hk : szO P e = some k) (hK : SrcK P t1) (hn : (Builtin.lenOf vx).run P w = .ok 0 w) (hf : (Builtin.firstCells k 0 vx).run P w = .ok #[] w) (hle : sLen ≤ cap) (ha : a = none → sLen = 0) :
    (Builtin.append_ #[t, t1] ty #[.slice a sLen cap, vx]).run P w = .ok (.slice a sLen cap) w := by
  have hks : ∀ w, (sizeOf e).run P w = .ok k w := fun w => run_szO hk w
  cases a with
  | none =>
    obtain rfl := ha rfl
    exact app_none hu hK hks hn hf
  | some a => exact app_fit (n := 0) (vs := []) hu hK hks hn hf (by omega) rfl
theorem ol_slice {s : AV} {el : List Sh} (hel : s = .nils ∨ ∃ m e0, s = .ol m el e0) {vs : Value} (hs : s.rp ρ vs) : ∃ a n c, vs = .slice a n c ∧ n ≤ c ∧ (a = none → n = 0) := by
  rcases hel with rfl | ⟨m, e0, rfl⟩
  · simp only [AV.rp] at hs
    exact ⟨none, 0, 0, hs, Nat.le_refl _, fun _ => rfl⟩
  · simp only [AV.rp] at hs
    obtain ⟨h1, h2⟩ := hs
    simp only [Sh.rp] at h1
    obtain ⟨a, c, rfl, h3, h4⟩ := h1
    refine ⟨a, _, c, rfl, h3, fun ha => ?_⟩
    rcases h4 with h4 | ⟨b, o, h4, _⟩
    · rw [h4]; rfl
    · rw [ha] at h4; cases h4
theorem srcO_snd {ty t t1 e : TypeId} {i : TypeInfo} {z vs vx : Value} {el : List Sh} {s x y : AV} (hu : P.underlying t = some (.slice e)) (hi : P.info? e = some i) (hz : i.zero = some z) (hzs : z.cells.size = i.size) (hb : i.bytes ≤ 10000) (hk : el.length = i.size) (hk0 : 0 < el.length)
    (hr : Rep B ρ h w) (e1 : srcO P t1 e el i.size s x lo h c lg = .ok y h' c' lg') (hs : s.rp ρ vs) (hx : x.rp ρ vx) (hel : s = .nils ∨ ∃ m e0, s = .ol m el e0) : VRun P B (Builtin.append_ #[t, t1] ty #[vs, vx]) ρ w y h' := by
  have hks : szO P e = some i.size := by unfold szO; rw [hi]; rfl
  have zero : SrcK P t1 → (Builtin.lenOf vx).run P w = .ok 0 w → (Builtin.firstCells i.size 0 vx).run P w = .ok #[] w → ret s lo h c lg = .ok y h' c' lg' → VRun P B (Builtin.append_ #[t, t1] ty #[vs, vx]) ρ w y h' := fun hK h1 h2 e => by
    obtain ⟨rfl, rfl, _, _⟩ := ret_ok e
    obtain ⟨a, n, c9, rfl, h3, h4⟩ := ol_slice hel hs
    exact VRun.here (app_zero hu hks hK h1 h2 h3 h4) hs hr
  have e1 : Option.rec (motive := fun _ => M AV) (srcN P t1 e el i.size s x) (srcL P t1 e el s) (xl x) lo h c lg = .ok y h' c' lg' := e1
  cases hp : xl x with
  | some p =>
    rw [hp] at e1
    obtain ⟨h1, e2⟩ := want_ok (show want ((elS P t1).isSome && eqShs p.1 el) 313 (emptyD p.2 s (addO e el s (.catl (exO s) p.2))) lo h c lg = .ok y h' c' lg' from e1)
    rw [Bool.and_eq_true] at h1
    obtain ⟨h1, h2⟩ := h1
    have h2 := eqShs_eq h2
    have hK : SrcK P t1 := by
      cases hq : elS P t1 with
      | none => rw [hq] at h1; cases h1
      | some e' => exact .inl ⟨e', elS_some hq⟩
    have hxl := xl_rp hp hx
    rw [h2] at hxl
    simp only [Sh.rp] at hxl
    obtain ⟨a, cc, rfl, hc, hl⟩ := hxl
    have hlen : (Builtin.lenOf (.slice a p.2.den.l.length cc)).run P w = .ok p.2.den.l.length w := rfl
    rcases emptyD_ok e2 with ⟨h3, e3⟩ | ⟨h3, e3⟩
    · refine zero hK (hlen.trans (by rw [h3])) ?_ e3
      cases a with
      | none => rfl
      | some a =>
        show (loadCells a (0 * i.size)).run P w = _
        rw [Nat.zero_mul]; rfl
    · rcases hl with hl | ⟨b, o, rfl, hcl⟩
      · rw [hl] at h3; simp at h3
      obtain ⟨nv, o1, _, o3⟩ := lst_rows (P := P) hr hk0 hcl
      refine addO_snd hu hi hz hzs hb hK hk hk0 hr e3 hs hel rfl h3 hlen fun w2 hr2 => ⟨nv, ?_, o1⟩
      rw [← hk]
      exact o3 w2 fun i v hv => hr2.frz b i v hv
  | none =>
    rw [hp] at e1
    have e1 : srcN P t1 e el i.size s x lo h c lg = .ok y h' c' lg' := e1
    have gen : need (cntV P t1 x) 315 (fun n => bif Nat.beq n 0 then ret s else bnd (srcM i.size x n) fun l => need (rowsX el i.size n (exO s) l) 316 fun ex => addO e el s ex) lo h c lg = .ok y h' c' lg' → VRun P B (Builtin.append_ #[t, t1] ty #[vs, vx]) ρ w y h' := fun e1 => by
      obtain ⟨n, h1, e2⟩ := need_ok e1
      by_cases hn : n = 0
      · subst hn
        have e2 : ret s lo h c lg = .ok y h' c' lg' := e2
        obtain ⟨rfl, rfl, _, _⟩ := ret_ok e2
        obtain ⟨a, n, c9, rfl, h3, h4⟩ := ol_slice hel hs
        exact VRun.here (app0_run hu hks h1 hx h3 h4) hs hr
      · rw [beq_f hn] at e2
        obtain ⟨hK, hlx⟩ := srcK_of h1 hn
        obtain ⟨l, h2, c2, lg2, e3, e4⟩ := bnd_ok (show bnd (srcM i.size x n) (fun l => need (rowsX el i.size n (exO s) l) 316 fun ex => addO e el s ex) lo h c lg = .ok y h' c' lg' from e2)
        obtain ⟨ex, h5, e5⟩ := need_ok e4
        obtain ⟨rfl, hsrc⟩ := src_snd (P := P) (B := B) e3 (Nat.le_refl n) hlx hx
        rw [← hk] at h5
        obtain ⟨L1, g1, g2, g3⟩ := rowsX_snd (ρ := ρ) h5
        have hlen := lenOf_rp (P := P) hlx hx (lenV_ne hlx hn) w
        refine addO_snd hu hi hz hzs hb hK hk hk0 hr e5 hs hel g1 (by omega) (by rw [g2]; exact hlen) fun w2 hr2 => ?_
        obtain ⟨nv, m1, m2⟩ := hsrc w2 hr2
        exact ⟨nv, by rw [g2]; exact m1, g3 nv m2⟩
    cases x with
    | sx sh a =>
      cases sh with
      | str =>
        obtain ⟨h1, e2⟩ := want_ok (show want (strT P t1 && isB el) 314 (emptyD (.toB a) s (addO e el s (.catl (exO s) (.toB a)))) lo h c lg = .ok y h' c' lg' from e1)
        rw [Bool.and_eq_true] at h1
        obtain ⟨h1, h2⟩ := h1
        have hK : SrcK P t1 := by
          unfold strT at h1
          split at h1
          · rename_i hq; exact .inr hq
          · cases h1
        have hb8 : el = [.int .u8] := by
          unfold isB at h2
          split at h2
          · rfl
          · cases h2
        simp only [AV.rp, Sh.rp] at hx
        subst hx
        have hL : (Xp.toB a).den.l = a.den.s.data.toList.map fun b => PV.int (b.toNat : Int) := rfl
        have hLl : (Xp.toB a).den.l.length = a.den.s.size := by rw [hL, List.length_map]; rfl
        have hlen : (Builtin.lenOf (.string a.den.s)).run P w = .ok (Xp.toB a).den.l.length w := by rw [hLl]; rfl
        have hfc : ∀ w2 : World, (Builtin.firstCells i.size (Xp.toB a).den.l.length (.string a.den.s)).run P w2 = .ok (a.den.s.data.toList.map fun b => Value.int .u8 (b.toNat : Int)).toArray w2 := fun w2 => by
          rw [hLl]
          show (Sem.pure ((a.den.s.extract 0 a.den.s.size).data.map fun b => Value.int .u8 (b.toNat : Int)) : Sem (Array Value)).run P w2 = _
          have : (a.den.s.extract 0 a.den.s.size).data = a.den.s.data := by
            rw [ByteArray.data_extract]
            exact Array.extract_size
          rw [this]
          show Result.ok _ w2 = _
          congr 1
          apply Array.ext'
          simp
        rcases emptyD_ok e2 with ⟨h3, e3⟩ | ⟨h3, e3⟩
        · have h4 := hfc w
          rw [h3] at h4
          refine zero hK (hlen.trans (by rw [h3])) ?_ e3
          have h5 : a.den.s.data.toList = [] := List.eq_nil_of_length_eq_zero (by rw [hL, List.length_map] at h3; exact h3)
          rw [h5] at h4
          exact h4
        · refine addO_snd hu hi hz hzs hb hK hk hk0 hr e3 hs hel rfl h3 hlen fun w2 hr2 => ⟨_, hfc w2, ?_⟩
          rw [hb8]
          refine ⟨by rw [hL, List.length_map, List.length_map]; simp, fun i x hi => ?_⟩
          rw [hL, List.getElem?_map] at hi
          cases hq : a.den.s.data.toList[i]? with
          | none => rw [hq] at hi; cases hi
          | some b =>
            rw [hq] at hi
            injection hi with hi
            subst hi
            simp only [Sh.rps, Sh.rp]
            refine ⟨⟨.int .u8 (b.toNat : Int), ?_, rfl⟩, trivial⟩
            show (a.den.s.data.toList.map fun b => Value.int .u8 (b.toNat : Int))[i * 1 + 0]? = _
            rw [Nat.mul_one, Nat.add_zero, List.getElem?_map, hq]
            rfl

      | _ => exact gen e1
    | _ => exact gen e1
theorem appA_snd {ts : Array TypeId} {ty : TypeId} {s x y : AV} {vs vx : Value} (e : appA P ts s x lo h c lg = .ok y h' c' lg') (hr : Rep B ρ h w) (hs : s.rp ρ vs) (hx : x.rp ρ vx) : VRun P B (Builtin.append_ ts ty #[vs, vx]) ρ w y h' := by
  unfold appA at e
  cases hol : isOl s x with
  | false => rw [hol] at e; exact app_snd e hr hs hx
  | true =>
    rw [hol] at e
    obtain ⟨t0, h0, e⟩ := need_ok (show need (ts[0]?) 63 _ lo h c lg = .ok y h' c' lg' from e)
    obtain ⟨t1, h1, e⟩ := need_ok e
    obtain ⟨h2, e⟩ := want_ok e
    obtain rfl := size2 h0 h1 (Nat.eq_of_beq_eq_true h2)
    obtain ⟨et, h3, e⟩ := need_ok e
    obtain ⟨k, h4, e⟩ := need_ok e
    obtain ⟨z, h5, e⟩ := need_ok e
    obtain ⟨h7, e⟩ := want_ok e
    obtain ⟨el, h8, e⟩ := need_ok e
    obtain ⟨h9, e⟩ := want_ok e
    rw [Bool.and_eq_true, Bool.and_eq_true, Nat.ble_eq, Nat.beq_eq, lenL_eq] at h7
    rw [Bool.and_eq_true, Nat.beq_eq, lenL_eq] at h9
    obtain ⟨b1, b3, b4⟩ := h7
    obtain ⟨zv, hzrun, hzr, ⟨it, hit, hitz⟩, hofz⟩ := run_zeroO h5 w
    obtain ⟨i, hi, rfl⟩ := szO_some h4
    obtain rfl : i = it := by rw [hi] at hit; injection hit
    have hzs := rps_length (rp_cells (hzr ρ) (notup_ne b4))
    have hzs2 : zv.cells.size = i.size := by simp at hzs; omega
    have hk0 : 0 < el.length := by
      rw [h9.1]
      have := h9.2
      cases hq : i.size with
      | zero => rw [hq] at this; cases this
      | succ n => omega
    refine srcO_snd (elS_some h3) hi hitz hzs2 (by simpa [Program.bytesOf, hi] using b1) h9.1 hk0 hr e hs hx ?_
    cases s with
    | nils => exact .inl rfl
    | ol m el2 e0 =>
      injection h8 with h8
      subst h8
      exact .inr ⟨m, e0, rfl⟩
    | _ => cases hol
end
end Go.Proofs.YtdflkikhmngfiaaGreatDoor

