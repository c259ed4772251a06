/- The machine's append, in the program: the whole. -/
import Derived.Test.YtdflkikhmngfiaaGreatDoorZ10
namespace Go.Proofs.YtdflkikhmngfiaaGreatDoor
open Go.RowKit
set_option linter.unusedVariables false
set_option linter.unusedSimpArgs false
set_option linter.unusedSectionVars false
variable [Sy] [Dc] [DcOK]

theorem Rep.drew {B : Nat} {ρ : Pm} {h : Heap} {w : World} (hr : Rep B ρ h w) : Rep B ρ h w.drew := hr.heap rfl rfl rfl rfl
theorem ble_t {a b : Nat} (h : a ≤ b) : Nat.ble a b = true := by rw [Nat.ble_eq]; exact h
theorem ble_f {a b : Nat} (h : ¬ a ≤ b) : Nat.ble a b = false := by
  cases hb : Nat.ble a b with
  | false => rfl
  | true => rw [Nat.ble_eq] at hb; exact absurd hb h
/-- A block that is told of no more. -/
theorem Rep.kill {B : Nat} {ρ : Pm} {h : Heap} {w : World} (hr : Rep B ρ h w) {m : Nat} : Rep B ρ (h.set m .dead) w := by
  have ne : ∀ n, (mt (h.set m .dead) n).live = true → n ≠ m ∧ (mt h n).live = true := fun n hl => by
    rw [mt_set] at hl
    by_cases hn : n = m
    · rw [if_pos hn] at hl; cases hl
    · rw [if_neg hn] at hl; exact ⟨hn, hl⟩
  have nh : ∀ n, (mt (h.set m .dead) n).held = true → n ≠ m ∧ (mt h n).held = true := fun n hl => by
    rw [mt_set] at hl
    by_cases hn : n = m
    · rw [if_pos hn] at hl; cases hl
    · rw [if_neg hn] at hl; exact ⟨hn, hl⟩
  refine ⟨hr.size, fun n hl => ?_, fun n hl => ?_, fun n k b f c f' c' h1 h2 => hr.apart n k b f c f' c' (nh n h1).2 (nh k h2).2, hr.inv, hr.frz, fun n b f c h1 => hr.sep n b f c (ne n h1).2, fun n el sh e h1 => hr.tok n el sh e (by rw [mt_set] at h1; by_cases hn : n = m; rw [if_pos hn] at h1; cases h1; rw [if_neg hn] at h1; exact h1), hr.low, fun b o hb => ⟨(hr.gho b o hb).1, fun n f c h1 => (hr.gho b o hb).2 n f c (nh n h1).2⟩⟩
  · obtain ⟨hn, hl2⟩ := ne n hl
    obtain ⟨b, f, c, o, k1, k2, k3, k4⟩ := hr.live n hl2
    refine ⟨b, f, c, o, k1, k2, k3, ?_⟩
    rw [mt_set, if_neg hn, show cl (h.set m .dead) n = cl h n from funext fun i => by rw [cl_set, if_neg hn]]
    exact k4
  · rw [mt_set] at hl
    by_cases hn : n = m
    · rw [if_pos hn] at hl; cases hl
    · rw [if_neg hn] at hl; exact hr.free n hl
/-- A row goes on under another name: more of it is told, from a place on. -/
theorem Rep.move {B : Nat} {ρ : Pm} {h : Heap} {w w' : World} (hr : Rep B ρ h w) {m nm b g cc : Nat} (hm : (mt h m).live = true) (hρ : ρ m = some (b, g, cc)) (hnm : (h.set m .dead).get nm = none) {b2 : Blk} (hb2 : b2.mta.live = true) {f c2 : Nat} {o : Obj}
    (hsz : w'.heap.size = w.heap.size) (ho : w'.heap[b]? = some o) (hoth : ∀ k, k ≠ b → w'.heap[k]? = w.heap[k]?) (h1 : w'.os = w.os) (h2 : w'.tape = w.tape) (h3 : w'.output = w.output)
    (hrep : ∀ ρ', ρ.le ρ' → repB ρ' f c2 b2.mta (cellOf (some b2)) o) : ∃ ρ', ρ.le ρ' ∧ ρ' nm = some (b, f, c2) ∧ Rep B ρ' ((h.set m .dead).set nm b2) w' ∧ Below B w w' := by
  have hk := hr.kill (m := m)
  have hfree := hk.free nm (get_none.1 hnm)
  have hnemn : nm ≠ m := fun e => by rw [e, hρ] at hfree; cases hfree
  obtain ⟨b', g', c', o', p1, p2, p3, p4⟩ := hr.live m hm
  rw [hρ] at p1
  injection p1 with p1
  injection p1 with p1 _
  subst p1
  let ρ' : Pm := ⟨fun x => if x = nm then some (b, f, c2) else ρ x, ρ.fz⟩
  have hle : ρ.le ρ' := ⟨fun x p hp => by
    show (if x = nm then _ else ρ x) = _
    rw [if_neg (fun e => by rw [e, hfree] at hp; cases hp)]
    exact hp, fun _ _ _ h => h⟩
  have hn' : ρ' nm = some (b, f, c2) := if_pos rfl
  have hold : ∀ x, x ≠ nm → ρ' x = ρ x := fun x hx => if_neg hx
  have old : ∀ x, x ≠ nm → (mt ((h.set m .dead).set nm b2) x).live = true → x ≠ m ∧ (mt h x).live = true := fun x hx hl => by
    rw [mt_set, if_neg hx, mt_set] at hl
    by_cases hxm : x = m
    · rw [if_pos hxm] at hl; cases hl
    · rw [if_neg hxm] at hl; exact ⟨hxm, hl⟩
  have oldh : ∀ x, x ≠ nm → (mt ((h.set m .dead).set nm b2) x).held = true → x ≠ m ∧ (mt h x).held = true := fun x hx hl => by
    rw [mt_set, if_neg hx, mt_set] at hl
    by_cases hxm : x = m
    · rw [if_pos hxm] at hl; cases hl
    · rw [if_neg hxm] at hl; exact ⟨hxm, hl⟩
  have oldb : ∀ x bx fx cx, x ≠ m → (mt h x).held = true → ρ x = some (bx, fx, cx) → bx ≠ b := fun x bx fx cx hx hl hp e => by
    subst e
    exact hx (hr.apart x m bx fx cx g cc hl (Mta.live_held hm) hp hρ)
  have bel : Below B w w' := ⟨h1, h2, h3, by rw [hsz]; exact Nat.le_refl _, fun k hk2 => hoth k (by omega)⟩
  refine ⟨ρ', hle, hn', ⟨by rw [hsz]; exact hr.size, fun x hl => ?_, fun x hl => ?_, fun x y bx fx cx fy cy hx hy px py => ?_, Sy.keep hr.inv bel, fun b9 i9 v9 h9 => ?_, fun x bx fx cx hl hp i => ?_, fun x el9 sh9 e9 h9 => ?_, hr.low, fun b2 o2 hb2 => ⟨by rw [hoth b2 (hr.gne (Mta.live_held hm) hρ hb2)]; exact (hr.gho b2 o2 hb2).1, fun x p q h8 e3 => by
    by_cases hx : x = nm
    · rw [hx, hn'] at e3
      injection e3 with e3
      injection e3 with e3 _
      exact hr.gne (Mta.live_held hm) hρ hb2 e3.symm
    · rw [hold x hx] at e3
      exact (hr.gho b2 o2 hb2).2 x p q (oldh x hx h8).2 e3⟩⟩, bel⟩
  · by_cases hx : x = nm
    · subst hx
      refine ⟨b, f, c2, o, hn', p2, ho, ?_⟩
      rw [mt_set, if_pos rfl, show cl ((h.set m .dead).set x b2) x = cellOf (some b2) from funext fun i => by rw [cl_set, if_pos rfl]]
      exact hrep ρ' hle
    · obtain ⟨hxm, hl2⟩ := old x hx hl
      obtain ⟨bx, fx, cx, ox, k1, k2, k3, k4⟩ := hr.live x hl2
      refine ⟨bx, fx, cx, ox, (hold x hx).trans k1, k2, by rw [hoth bx (oldb x bx fx cx hxm (Mta.live_held hl2) k1)]; exact k3, ?_⟩
      rw [mt_set, if_neg hx, mt_set, if_neg hxm, show cl ((h.set m .dead).set nm b2) x = cl h x from funext fun i => by rw [cl_set, if_neg hx, cl_set, if_neg hxm]]
      exact repB_mono hle k4
  · by_cases hx : x = nm
    · subst hx
      rw [mt_set, if_pos rfl] at hl
      rw [hl] at hb2
      cases hb2
    · rw [mt_set, if_neg hx] at hl
      exact (hold x hx).trans (hk.free x hl)
  · by_cases hxn : x = nm
    · by_cases hyn : y = nm
      · rw [hxn, hyn]
      · exfalso
        obtain ⟨hym, hyl⟩ := oldh y hyn hy
        rw [hold y hyn] at py
        rw [hxn, hn'] at px
        injection px with px
        injection px with px _
        exact oldb y _ _ _ hym hyl py px.symm
    · by_cases hyn : y = nm
      · exfalso
        obtain ⟨hxm, hxl⟩ := oldh x hxn hx
        rw [hold x hxn] at px
        rw [hyn, hn'] at py
        injection py with py
        injection py with py _
        exact oldb x _ _ _ hxm hxl px py.symm
      · obtain ⟨hxm, hxl⟩ := oldh x hxn hx
        obtain ⟨hym, hyl⟩ := oldh y hyn hy
        rw [hold x hxn] at px
        rw [hold y hyn] at py
        exact hr.apart x y bx fx cx fy cy hxl hyl px py
  · have hne : b9 ≠ b := fun e => by
      rw [e, hr.sep m b g cc hm hρ i9] at h9
      cases h9
    exact (cell_congr (hoth b9 hne) _ _).trans (hr.frz b9 i9 v9 h9)
  · by_cases hx : x = nm
    · rw [hx, hn'] at hp
      injection hp with hp
      injection hp with hp _
      rw [← hp]
      exact hr.sep m b g cc hm hρ i
    · obtain ⟨hxm, hl2⟩ := old x hx hl
      rw [hold x hx] at hp
      exact hr.sep x bx fx cx hl2 hp i
  · by_cases hx : x = nm
    · rw [hx, mt_set, if_pos rfl] at h9
      rw [h9] at hb2
      cases hb2
    · rw [mt_set, if_neg hx, mt_set] at h9
      by_cases hxm : x = m
      · rw [if_pos hxm] at h9; cases h9
      · rw [if_neg hxm] at h9
        exact (hr.tok x el9 sh9 e9 h9).of (hold x hx) (fun _ _ _ _ _ => rfl) fun b3 f3 c3 hb3 => hoth b3 (oldb x b3 f3 c3 hxm (by rw [h9]; rfl) hb3)
theorem zeroCells_size (z : Array Value) (n : Nat) : (Builtin.zeroCells z n).size = n * z.size := by simp [Builtin.zeroCells]
section
variable {P : Program} {B : Nat} {lo : Nat} {h : Heap} {c : Nat} {lg : List Ev} {h' : Heap} {c' : Nat} {lg' : List Ev} {ρ : Pm} {w : World}
theorem srcK_of {t : TypeId} {x : AV} {n : Nat} (e : cntV P t x = some n) (h0 : n ≠ 0) : SrcK P t ∧ lenV x = some n := by
  unfold cntV at e
  cases hu : P.underlying t with
  | none => rw [hu] at e; cases e
  | some d =>
    rw [hu] at e
    cases d with
    | slice e' => exact ⟨.inl ⟨e', hu⟩, (bif_some e).2⟩
    | string => exact ⟨.inr hu, (bif_some e).2⟩
    | int k =>
      exfalso
      cases x with
      | int k2 i =>
        cases i with
        | ofNat m =>
          cases k2 <;> cases m <;> first
            | (injection e with e; exact h0 e.symm)
            | cases e
        | negSucc m => cases k2 <;> cases e
      | _ => cases e
    | _ => cases e
/-- A new row with room behind. -/
theorem newOpen_snd {el : TypeId} {k n : Nat} {l : List AV} {nm : Nat} (e : newRowM el k l true lo h c lg = .ok nm h' c' lg') (hr : Rep B ρ h w) {vs : List Value} (hl : AV.rps ρ l vs) (hlen : l.length = n * k) {z : Array Value} (hz : z.size = k) {cap : Nat} (hcap : n ≤ cap) :
    ∃ ρ', ρ.le ρ' ∧ ρ' nm = some (w.heap.size, 0, cap) ∧ Rep B ρ' h' (w.drew.alloc (.cells (vs.toArray ++ Builtin.zeroCells z (cap - n)) el)) ∧ Below B w (w.drew.alloc (.cells (vs.toArray ++ Builtin.zeroCells z (cap - n)) el)) := by
  obtain ⟨h0, rfl, rfl, _, _⟩ := new_ok e
  have hvl := rps_length hl
  have hsz : (vs.toArray ++ Builtin.zeroCells z (cap - n)).size = cap * k := by
    rw [Array.size_append, zeroCells_size, hz, List.size_toArray, ← hvl, hlen, ← Nat.add_mul]
    congr 1
    omega
  refine hr.newW h0 rfl (fun ρ' hle => ?_) rfl rfl rfl rfl
  refine ⟨_, (0, 0), rfl, .inl rfl, fun i x hx => ?_, fun _ => ⟨by rw [hsz, Nat.zero_add], by rw [lenL_eq, hlen]; exact Nat.mul_le_mul_right k hcap⟩⟩
  have hx : (Tr.ofList l).get i = some x := hx
  rw [Tr.get_ofList] at hx
  obtain ⟨v, h1, h2⟩ := (rps_at.1 hl).2 i x hx
  have hi : i < vs.length := (List.getElem?_eq_some_iff.1 h1).1
  exact ⟨v, by rw [Nat.zero_add, Array.getElem?_append_left (by simpa using hi)]; simpa using h1, h2.mono hle⟩
theorem rp_slice_len {x : AV} {v : Value} {n : Nat} (e : lenV x = some n) (hx : x.rp ρ v) (hs : ∀ l, x ≠ .str l) (hm : x ≠ .nilm) : ∃ a cap, v = .slice a n cap := by
  cases x with
  | str l => exact absurd rfl (hs l)
  | nilm => exact absurd rfl hm
  | nils => injection e with e; subst e; simp only [AV.rp] at hx; subst hx; exact ⟨_, _, rfl⟩
  | sl n o len cap => injection e with e; subst e; simp only [AV.rp] at hx; obtain ⟨_, _, _, _, rfl⟩ := hx; exact ⟨_, _, rfl⟩
  | os n z f len => injection e with e; subst e; simp only [AV.rp] at hx; obtain ⟨_, _, _, _, _, rfl⟩ := hx; exact ⟨_, _, rfl⟩
  | emp => injection e with e; subst e; simp only [AV.rp] at hx; obtain ⟨_, _, rfl⟩ := hx; exact ⟨_, _, rfl⟩
  | oe n9 z9 f9 => injection e with e; subst e; obtain ⟨_, _, rfl⟩ := oe_emp hx; exact ⟨_, _, rfl⟩
  | _ => cases e
/-- Nothing is appended. -/
theorem app0_run {ty t t1 e : TypeId} {k : Nat} {x : AV} {vx : Value} {a : Option Addr} {sLen cap : Nat} (hu : P.underlying t = some (.slice e)) (hk : szO P e = some k) (hc : cntV P t1 x = some 0) (hx : x.rp ρ vx) (hle : sLen ≤ cap) (ha : a = none → sLen = 0) :
    (Builtin.append_ #[t, t1] ty #[.slice a sLen cap, vx]).run P w = .ok (.slice a sLen cap) w := by
  have hks : ∀ w, (sizeOf e).run P w = .ok k w := fun w => run_szO hk w
  have main : SrcK P t1 → lenV x = some 0 → x ≠ .nilm → (Builtin.append_ #[t, t1] ty #[.slice a sLen cap, vx]).run P w = .ok (.slice a sLen cap) w := fun h1 h2 h3 => by
    have hlen := lenOf_rp (P := P) h2 hx h3 w
    have hfc : (Builtin.firstCells k 0 vx).run P w = .ok #[] w := by
      cases x with
      | str l =>
        simp only [AV.rp] at hx
        obtain ⟨_, rfl⟩ := hx
        show (Sem.pure (((bytesOf l).extract 0 0).data.map fun b => Value.int .u8 (b.toNat : Int)) : Sem (Array Value)).run P w = _
        have : ((bytesOf l).extract 0 0).data = #[] := by
          rw [ByteArray.data_extract]
          simp
        rw [this]
        simp
      | _ =>
        obtain ⟨a2, cap2, rfl⟩ := rp_slice_len h2 hx (by intro l hh; cases hh) h3
        cases a2 with
        | none => rfl
        | some a2 =>
          show (loadCells a2 (0 * k)).run P w = _
          rw [Nat.zero_mul]
          rfl
    cases a with
    | none =>
      obtain rfl := ha rfl
      exact app_none hu h1 hks hlen hfc
    | some a =>
      have := app_fit (P := P) (ty := ty) (w := w) (w' := w) (vs := []) (a := a) (cap := cap) (sLen := sLen) (n := 0) hu h1 hks hlen hfc (by omega) rfl
      simpa using this
  unfold cntV at hc
  cases hu1 : P.underlying t1 with
  | none => rw [hu1] at hc; cases hc
  | some d =>
    rw [hu1] at hc
    cases d with
    | slice e' => exact main (.inl ⟨e', hu1⟩) (bif_some hc).2 (by rintro rfl; cases (bif_some hc).1)
    | string => exact main (.inr hu1) (bif_some hc).2 (by rintro rfl; cases (bif_some hc).1)
    | int kk =>
      have hx0 : x = .int .i64 0 := by
        cases x with
        | int k2 i =>
          cases i with
          | ofNat m => cases k2 <;> cases m <;> first | rfl | cases hc
          | negSucc m => cases k2 <;> cases hc
        | _ => cases hc
      subst hx0
      simp only [AV.rp] at hx
      subst hx
      obtain ⟨i, hi, rfl⟩ := szO_some hk
      have hw : IntKind.i64.wrap 0 = 0 := rfl
      cases a with
      | none =>
        obtain rfl := ha rfl
        simp [Builtin.append_, run_underlying hu, run_underlying hu1, sizeOf, typeInfo, hi, asInt, asIntOf, hw]
      | some a => simp [Builtin.append_, run_underlying hu, run_underlying hu1, sizeOf, typeInfo, hi, asInt, asIntOf, hw, hle, storeCells]
    | _ => cases hc
theorem app0_snd {ty t t1 e : TypeId} {k : Nat} {s x y : AV} {vs vx : Value} (hu : P.underlying t = some (.slice e)) (hk : szO P e = some k) (hc : cntV P t1 x = some 0) (hx : x.rp ρ vx) (hs : s.rp ρ vs) (hr : Rep B ρ h w) (e : app0 s lo h c lg = .ok y h' c' lg') : VRun P B (Builtin.append_ #[t, t1] ty #[vs, vx]) ρ w y h' := by
  cases s with
  | nils =>
    obtain ⟨rfl, rfl, _, _⟩ := ret_ok (show ret AV.nils lo h c lg = .ok y h' c' lg' from e)
    have hs' := hs
    simp only [AV.rp] at hs
    subst hs
    exact VRun.here (app0_run hu hk hc hx (Nat.le_refl _) (fun _ => rfl)) hs' hr
  | emp =>
    obtain ⟨rfl, rfl, _, _⟩ := ret_ok (show ret AV.emp lo h c lg = .ok y h' c' lg' from e)
    have hs' := hs
    simp only [AV.rp] at hs
    obtain ⟨a, cc, rfl⟩ := hs
    exact VRun.here (app0_run hu hk hc hx (Nat.zero_le _) (fun _ => rfl)) hs' hr
  | oe n9 z9 f9 =>
    obtain ⟨rfl, rfl, _, _⟩ := ret_ok (show ret (AV.oe n9 z9 f9) lo h c lg = .ok y h' c' lg' from e)
    have hs' := hs
    obtain ⟨a, cc, rfl⟩ := oe_emp hs
    exact VRun.here (app0_run hu hk hc hx (Nat.zero_le _) (fun _ => rfl)) hs' hr
  | os m z f len =>
    obtain ⟨rfl, rfl, _, _⟩ := ret_ok (show ret (AV.os m z f len) lo h c lg = .ok y h' c' lg' from e)
    have hs' := hs
    simp only [AV.rp] at hs
    obtain ⟨b, g, cc, hn, hlc, rfl⟩ := hs
    exact VRun.here (app0_run hu hk hc hx (by omega) (fun h => by cases h)) hs' hr
  | sl m o len cap =>
    obtain ⟨hle, e⟩ := want_ok (show want (Nat.ble len cap) 62 (ret (AV.sl m o len cap)) lo h c lg = .ok y h' c' lg' from e)
    obtain ⟨rfl, rfl, _, _⟩ := ret_ok e
    have hs' := hs
    simp only [AV.rp] at hs
    obtain ⟨b, g, cc, hn, rfl⟩ := hs
    exact VRun.here (app0_run hu hk hc hx (by rw [Nat.ble_eq] at hle; exact hle) (fun h => by cases h)) hs' hr
  | _ => cases e
theorem app1_snd {ty t t1 e : TypeId} {i : TypeInfo} {n q : Nat} {s x y : AV} {vs vx z : Value} (hu : P.underlying t = some (.slice e)) (hi : P.info? e = some i) (hz : i.zero = some z) (hzs : z.cells.size = i.size) (hb : i.bytes ≤ 10000) (hK : SrcK P t1) (hlx : lenV x = some n) (h0 : n ≠ 0) (hn5 : n ≤ 100000) (hls : lenV s = some q) (hq : q ≤ 100000)
    (hx : x.rp ρ vx) (hs : s.rp ρ vs) (hr : Rep B ρ h w) (e1 : app1 e i.size s x n lo h c lg = .ok y h' c' lg') : VRun P B (Builtin.append_ #[t, t1] ty #[vs, vx]) ρ w y h' := by
  have hk : szO P e = some i.size := by unfold szO; rw [hi]; rfl
  have hks : ∀ w, (sizeOf e).run P w = .ok i.size w := fun w => run_szO hk w
  have hlen := lenOf_rp (P := P) hlx hx (lenV_ne hlx h0) w
  -- the grown row
  have grow : ∀ {olds news : List AV} {nm : Nat} {a : Option Addr} {sLen cap : Nat} {ha : Heap} {ca : Nat} {lga : List Ev} {hb' : Heap} {cb : Nat} {lgb : List Ev} {ov nv : List Value}, newRowM e i.size (olds ++ news) true lo ha ca lga = .ok nm hb' cb lgb → Rep B ρ ha w → AV.rps ρ olds ov → AV.rps ρ news nv → olds.length = sLen * i.size → news.length = n * i.size →
      (Builtin.firstCells i.size n vx).run P w.drew = .ok nv.toArray w.drew → (Builtin.firstCells i.size sLen (.slice a sLen cap)).run P w.drew = .ok ov.toArray w.drew → cap < sLen + n → sLen ≤ 100000 → VRun P B (Builtin.append_ #[t, t1] ty #[.slice a sLen cap, vx]) ρ w (.os nm i.size 0 (sLen + n)) hb' := by
    intro olds news nm a sLen cap ha ca lga hb' cb lgb ov nv en hra hro hrn hlo hln hfn hfo hg hsl
    obtain ⟨ρ', k1, k2, k3, k4⟩ := newOpen_snd (w := w) (n := sLen + n) en hra (rps_append hro hrn) (by rw [List.length_append, hlo, hln, Nat.add_mul]) hzs (grownCap_ge w (sLen + n) cap e)
    refine ⟨ρ', _, _, app_grow hu hK hi hz hlen hfn hfo hg hb (by omega), k1, ?_, k3, k4⟩
    simp only [AV.rp]
    exact ⟨_, _, _, k2, by have := grownCap_ge w (sLen + n) cap e; omega, by simp⟩
  have endS : ∀ {m zz f len b g cc : Nat} {y : AV}, ρ m = some (b, g, cc) → f + len ≤ cc → len ≤ 100000 → bnd (rdM m) (fun mm => appEnd e i.size m f len n x zz mm) lo h c lg = .ok y h' c' lg' → VRun P B (Builtin.append_ #[t, t1] ty #[.slice (some ⟨b, g + f * zz, none⟩) len (cc - f), vx]) ρ w y h' := by
    intro m zz f len b g cc y hn hlc hq e1
    obtain ⟨mm, ha, ca, lga, e2, e3⟩ := bnd_ok e1
    obtain ⟨rfl, _, hmm⟩ := rdM_ok e2
    cases mm with
    | row el z2 sz opn =>
      cases opn with
      | false => cases e3
      | true =>
        obtain ⟨hw0, e4⟩ := want_ok (show want (Nat.beq zz i.size && (Nat.beq z2 i.size && (Nat.beq el e && Nat.beq (Nat.mul (Nat.add f len) i.size) sz))) 68 _ lo ha ca lga = .ok y h' c' lg' from e3)
        rw [Bool.and_eq_true, Bool.and_eq_true, Bool.and_eq_true, Nat.beq_eq, Nat.beq_eq, Nat.beq_eq, Nat.beq_eq] at hw0
        obtain ⟨q1, q2, q3, q4⟩ := hw0
        have q4 : (f + len) * i.size = sz := q4
        subst q1
        obtain ⟨l, hb2, cb, lgb, e5, e6⟩ := bnd_ok e4
        obtain ⟨hone, e6⟩ := want_ok e6
        obtain ⟨old, hb3, cb3, lgb3, e7, e8⟩ := bnd_ok e6
        obtain ⟨u, hb4, cb4, lgb4, e9, e10⟩ := bnd_ok e8
        obtain ⟨nm, hb5, cb5, lgb5, e11, e12⟩ := bnd_ok e10
        rw [fNat_eq] at e12
        obtain ⟨rfl, rfl, _, _⟩ := ret_ok e12
        obtain ⟨rfl, hsrc⟩ := src_snd (P := P) (B := B) e5 (Nat.le_refl n) hlx hx
        have hll := src_len e5 hlx
        obtain ⟨rfl, _, g3, g4⟩ := rdL_ok e7
        have hkill : hb4 = Tr.set hb3 m .dead := by
          obtain ⟨e13, _, _⟩ := prim_ok e9
          cases hg : hb3.get m with
          | none => rw [hg] at e13; cases e13
          | some b0 => rw [hg] at e13; injection e13 with _ e13; exact e13.symm
        subst hkill
        rw [appL_eq] at e11
        have g3 : old.length = len * i.size := g3
        have hlive : (mt hb3 m).live = true := by rw [hmm]; rfl
        by_cases hfit : len + n ≤ cc - f
        · obtain ⟨b', g', c2', ob, p1, p2, p3, p4⟩ := hr.live m hlive
          rw [hn] at p1
          injection p1 with p1
          injection p1 with p1 p5
          injection p5 with p5 p6
          subst p1 p5 p6
          rw [hmm] at p4
          obtain ⟨arr, fz, rfl, hfz, hcells, hopn⟩ := p4
          obtain ⟨ho1, ho2⟩ := hopn rfl
          rw [q2] at ho1 ho2
          obtain ⟨nv, m1, m2⟩ := hsrc w hr
          have hnvl := rps_length m2
          have hroom : (f + len + n) * i.size ≤ cc * i.size := Nat.mul_le_mul_right _ (by omega)
          have hexp : (f + len + n) * i.size = f * i.size + len * i.size + n * i.size := by rw [Nat.add_mul, Nat.add_mul]
          obtain ⟨w', arr', s1, s2, s3, s4, s5, s6, s7, s8, s9⟩ := store_many (P := P) (o := g + f * i.size + len * i.size) nv 0 w arr p3 hfz (by omega) (fun v hv => by
            obtain ⟨j, hj⟩ := List.mem_iff_getElem?.1 hv
            have hjl : j < l.length := by rw [hnvl]; exact (List.getElem?_eq_some_iff.1 hj).1
            obtain ⟨v2, hv2, hrp⟩ := (rps_at.1 m2).2 j _ (List.getElem?_eq_getElem hjl)
            rw [hj] at hv2
            injection hv2 with hv2
            subst hv2
            exact rp_one hrp (List.all_eq_true.1 hone _ (List.getElem_mem hjl)))
          obtain ⟨h0new, rfl, rfl, _, _⟩ := new_ok e11
          have hsz2 : (old ++ l).length = (len + n) * i.size := by rw [List.length_append, g3, hll, Nat.add_mul]
          obtain ⟨ρ', k1, k2, k3, k4⟩ := hr.move hlive hn h0new (b2 := .row e i.size (lenL (old ++ l)) (Tr.ofList (old ++ l)) true) rfl (f := g + f * i.size) (c2 := cc - f) s6 s2 s5 s7 s8 s9 (fun ρ' hle => by
            refine ⟨arr', fz, by rw [q3], by rw [s3]; exact hfz, fun j x2 hx2 => ?_, fun _ => ⟨?_, ?_⟩⟩
            · have hx2 : (Tr.ofList (old ++ l)).get j = some x2 := hx2
              rw [Tr.get_ofList] at hx2
              rw [s4]
              by_cases hj : j < old.length
              · rw [List.getElem?_append_left hj] at hx2
                obtain ⟨v2, hv2, hrp⟩ := hcells (f * i.size + j) x2 ((g4 j (by rw [g3] at hj; exact hj)).trans hx2)
                rw [if_neg (by omega)]
                exact ⟨v2, by rw [Nat.add_assoc]; exact hv2, hrp.mono hle⟩
              · rw [List.getElem?_append_right (by omega)] at hx2
                obtain ⟨v2, hv2, hrp⟩ := (rps_at.1 m2).2 _ _ hx2
                have : j - old.length < nv.length := (List.getElem?_eq_some_iff.1 hv2).1
                rw [if_pos (by omega), show g + f * i.size + j - (g + f * i.size + len * i.size + 0) = j - old.length by omega]
                exact ⟨v2, hv2, hrp.mono hle⟩
            · rw [s3, ho1, Nat.sub_mul]
              have : f * i.size ≤ cc * i.size := Nat.mul_le_mul_right _ (by omega)
              omega
            · rw [lenL_eq, hsz2]
              exact Nat.mul_le_mul_right _ hfit)
          refine ⟨ρ', .slice (some ⟨b, g + f * i.size, none⟩) (len + n) (cc - f), w', app_fit hu hK hks hlen m1 hfit ?_, k1, ?_, k3, k4⟩
          · rw [addr_add]; exact s1
          · simp only [AV.rp]
            exact ⟨_, _, _, k2, by show 0 + (len + n) ≤ cc - f; omega, by simp⟩
        · obtain ⟨nv, m1, m2⟩ := hsrc w.drew hr.drew
          obtain ⟨ov, k1, k2, k3, _⟩ := hr.drew.cells (P := P) (o := f * i.size) g3 (fun j hj => g4 j hj) hn
          exact grow (a := some ⟨b, g + f * i.size, none⟩) (sLen := len) (cap := cc - f) e11 hr.kill k2 m2 g3 hll m1 k1 (by omega) hq
    | _ => cases e3
  cases s with
  | nils =>
    simp only [AV.rp] at hs
    subst hs
    obtain ⟨l, ha, ca, lga, e2, e3⟩ := bnd_ok (show bnd (srcM i.size x n) (fun l => bnd (newRowM e i.size l true) fun c => ret (.os c i.size 0 n)) lo h c lg = .ok y h' c' lg' from e1)
    obtain ⟨nm, hb2, cb, lgb, e4, e5⟩ := bnd_ok e3
    obtain ⟨rfl, rfl, _, _⟩ := ret_ok e5
    obtain ⟨rfl, hsrc⟩ := src_snd (P := P) (B := B) e2 (Nat.le_refl n) hlx hx
    obtain ⟨nv, m1, m2⟩ := hsrc w.drew hr.drew
    have := grow (olds := []) (news := l) (a := none) (sLen := 0) (cap := 0) (ov := []) e4 hr (rps_nil.2 rfl) m2 (by simp) (src_len e2 hlx) m1 rfl (by omega) (by omega)
    rw [Nat.zero_add] at this
    exact this
  | sl m o len cap =>
    have hs0 := hs
    simp only [AV.rp] at hs
    obtain ⟨b, f, cc, hn, rfl⟩ := hs
    injection hls with hls
    subst hls
    have e1 : fNat (Nat.add len n) (fun nd => bif Nat.ble nd cap then bnd (srcM i.size x n) (fun l => bnd (wrCs m l (Nat.add o (Nat.mul len i.size))) fun _ => ret (.sl m o nd cap))
      else bnd (rdCs m (Nat.mul len i.size) o) fun old => bnd (srcM i.size x n) fun l => bnd (newRowM e i.size (appL old l) true) fun c => ret (.os c i.size 0 nd)) lo h c lg = .ok y h' c' lg' := e1
    rw [fNat_eq] at e1
    by_cases hfit : len + n ≤ cap
    · have e1 : bnd (srcM i.size x n) (fun l => bnd (wrCs m l (Nat.add o (Nat.mul len i.size))) fun _ => ret (.sl m o (len + n) cap)) lo h c lg = .ok y h' c' lg' := by
        rw [show Nat.ble (Nat.add len n) cap = true from ble_t hfit] at e1
        exact e1
      obtain ⟨l, ha, ca, lga, e2, e3⟩ := bnd_ok e1
      obtain ⟨u, hb2, cb, lgb, e4, e5⟩ := bnd_ok e3
      obtain ⟨rfl, rfl, _, _⟩ := ret_ok e5
      obtain ⟨rfl, hsrc⟩ := src_snd (P := P) (B := B) e2 (Nat.le_refl n) hlx hx
      obtain ⟨nv, m1, m2⟩ := hsrc w hr
      obtain ⟨w', p1, p2, p3⟩ := put_snd (P := P) hn e4 m2 hr
      refine ⟨ρ, _, w', app_fit hu hK hks hlen m1 hfit (a := ⟨b, f + o, none⟩) ?_, Pm.le.refl ρ, by simp only [AV.rp]; exact ⟨b, f, cc, hn, rfl⟩, p2, p3⟩
      rw [addr_add, Nat.add_assoc]
      exact p1
    · have e1 : bnd (rdCs m (Nat.mul len i.size) o) (fun old => bnd (srcM i.size x n) fun l => bnd (newRowM e i.size (appL old l) true) fun c => ret (.os c i.size 0 (len + n))) lo h c lg = .ok y h' c' lg' := by
        rw [show Nat.ble (Nat.add len n) cap = false from ble_f hfit] at e1
        exact e1
      obtain ⟨old, ha, ca, lga, e2, e3⟩ := bnd_ok e1
      obtain ⟨l, hb2, cb, lgb, e4, e5⟩ := bnd_ok e3
      obtain ⟨nm, hb3, cb3, lgb3, e6, e7⟩ := bnd_ok e5
      obtain ⟨rfl, rfl, _, _⟩ := ret_ok e7
      obtain ⟨rfl, _, g3, g4⟩ := rdCs_ok e2
      obtain ⟨rfl, hsrc⟩ := src_snd (P := P) (B := B) e4 (Nat.le_refl n) hlx hx
      obtain ⟨nv, m1, m2⟩ := hsrc w.drew hr.drew
      obtain ⟨ov, k1, k2, k3, _⟩ := hr.drew.cells (P := P) g3 g4 hn
      rw [appL_eq] at e6
      exact grow (a := some ⟨b, f + o, none⟩) (sLen := len) (cap := cap) e6 hr k2 m2 g3 (src_len e4 hlx) m1 k1 (by omega) hq
  | os m zz f len =>
    simp only [AV.rp] at hs
    obtain ⟨b, g, cc, hn, hlc, rfl⟩ := hs
    injection hls with hls
    subst hls
    exact endS hn hlc hq (show bnd (rdM m) (fun mm => appEnd e i.size m f len n x zz mm) lo h c lg = .ok y h' c' lg' from e1)
  | oe m zz f =>
    simp only [AV.rp] at hs
    obtain ⟨b, g, cc, hn, hlc, hs⟩ := hs
    have e1 : bnd (rdM m) (fun mm => appEnd e i.size m f 0 n x zz mm) lo h c lg = .ok y h' c' lg' := e1
    rcases hs with ⟨hlt, rfl⟩ | ⟨rfl, a, rfl⟩
    · exact endS hn hlc (by omega) e1
    · obtain ⟨mm, ha, ca, lga, e2, e3⟩ := bnd_ok e1
      obtain ⟨rfl, _, hmm⟩ := rdM_ok e2
      cases mm with
      | row el z2 sz opn =>
        cases opn with
        | false => cases e3
        | true =>
          obtain ⟨hw0, e4⟩ := want_ok (show want (Nat.beq zz i.size && (Nat.beq z2 i.size && (Nat.beq el e && Nat.beq (Nat.mul (Nat.add f 0) i.size) sz))) 68 _ lo ha ca lga = .ok y h' c' lg' from e3)
          obtain ⟨l, hb2, cb, lgb, e5, e6⟩ := bnd_ok e4
          obtain ⟨hone, e6⟩ := want_ok e6
          obtain ⟨old, hb3, cb3, lgb3, e7, e8⟩ := bnd_ok e6
          obtain ⟨u, hb4, cb4, lgb4, e9, e10⟩ := bnd_ok e8
          obtain ⟨nm, hb5, cb5, lgb5, e11, e12⟩ := bnd_ok e10
          rw [fNat_eq] at e12
          obtain ⟨rfl, rfl, _, _⟩ := ret_ok e12
          obtain ⟨rfl, hsrc⟩ := src_snd (P := P) (B := B) e5 (Nat.le_refl n) hlx hx
          have hll := src_len e5 hlx
          obtain ⟨rfl, _, g3, g4⟩ := rdL_ok e7
          have hkill : hb4 = Tr.set hb3 m .dead := by
            obtain ⟨e13, _, _⟩ := prim_ok e9
            cases hg : hb3.get m with
            | none => rw [hg] at e13; cases e13
            | some b0 => rw [hg] at e13; injection e13 with _ e13; exact e13.symm
          subst hkill
          rw [appL_eq] at e11
          have g3 : old.length = 0 * i.size := g3
          obtain rfl : old = [] := List.eq_nil_of_length_eq_zero (by rw [g3, Nat.zero_mul])
          obtain ⟨nv, m1, m2⟩ := hsrc w.drew hr.drew
          have := grow (a := some a) (sLen := 0) (cap := 0) (ov := []) e11 hr.kill (rps_nil.2 rfl) m2 (by simp) hll m1 (by
            show (loadCells a (0 * i.size)).run P w.drew = _
            rw [Nat.zero_mul]; rfl) (by omega) (by omega)
          exact this
      | _ => cases e3
  | _ => cases e1
theorem app_snd {ts : Array TypeId} {ty : TypeId} {s x y : AV} {vs vx : Value} (e : appM P ts s x lo h c lg = .ok y h' c' lg') (hr : Rep B ρ h w) (hs : s.rp ρ vs) (hx : x.rp ρ vx) : VRun P B (Builtin.append_ ts ty #[vs, vx]) ρ w y h' := by
  obtain ⟨t0, h0, e⟩ := need_ok (show need (ts[0]?) 63 _ lo h c lg = .ok y h' c' lg' from e)
  obtain ⟨t1, h1, e⟩ := need_ok e
  obtain ⟨h2, e⟩ := want_ok e
  obtain rfl := size2 h0 h1 (Nat.eq_of_beq_eq_true h2)
  obtain ⟨el, h3, e⟩ := need_ok e
  obtain ⟨k, h4, e⟩ := need_ok e
  obtain ⟨z, h5, e⟩ := need_ok e
  obtain ⟨n, h6, e⟩ := need_ok e
  have hu := elS_some h3
  by_cases hn : n = 0
  · subst hn
    have e : app0 s lo h c lg = .ok y h' c' lg' := e
    exact app0_snd hu h4 h6 hx hs hr e
  · rw [beq_f hn] at e
    obtain ⟨h7, e⟩ := want_ok (show want (Nat.ble (P.bytesOf el) 10000 && (Nat.ble n 100000 && (Nat.beq (lenL z.cells) k && notup z))) 67 (need (lenV s) 67 fun q => want (Nat.ble q 100000) 67 <| app1 el k s x n) lo h c lg = .ok y h' c' lg' from e)
    obtain ⟨q, h8, e⟩ := need_ok e
    obtain ⟨h9, e⟩ := want_ok e
    rw [Bool.and_eq_true, Bool.and_eq_true, Bool.and_eq_true, Nat.ble_eq, Nat.ble_eq, Nat.beq_eq, lenL_eq] at h7
    obtain ⟨b1, b2, b3, b4⟩ := h7
    obtain ⟨zv, hzrun, hzr, ⟨it, hit, hitz⟩, hofz⟩ := run_zeroO h5 w
    obtain ⟨i, hi, rfl⟩ := szO_some h4
    obtain rfl : i = it := by rw [hi] at hit; injection hit
    have hzs := rps_length (rp_cells (hzr ρ) (notup_ne b4))
    have hzs2 : zv.cells.size = i.size := by simp at hzs; omega
    obtain ⟨hK, hlx⟩ := srcK_of h6 hn
    exact app1_snd hu hi hitz hzs2 (by simpa [Program.bytesOf, hi] using b1) hK hlx hn b2 h8 (by rw [Nat.ble_eq] at h9; exact h9) hx hs hr e
end
end Go.Proofs.YtdflkikhmngfiaaGreatDoor

