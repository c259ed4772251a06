/- The machine's operations, in the program. -/
import Derived.Test.YtdflkikhmngfiaaGreatDoorZ12
import Derived.Test.YtdflkikhmngfiaaGreatDoorZ13
namespace Go.Proofs.YtdflkikhmngfiaaGreatDoor
open Go.RowKit
set_option linter.unusedVariables false
set_option linter.unusedSimpArgs false
set_option linter.unusedSectionVars false
variable [Sy] [Dc] [DcOK]

section
variable {P : Program} {B : Nat} {ρ0 : Pm}
/-- The rest of an operation, once its value is there. -/
theorem wp_val {o : Oper} {act : Act} {w w' : World} {K : Act → World → Prop} {Q : Exit → Act → World → Prop} {v : Value} (h : (execOp act.eval o).run P w = .ok (.value v) w') (hk : K (act.put o.dst v) w') : o.wp P act w K Q := by
  unfold Oper.wp
  rw [h]
  exact hk
theorem wp_skp {o : Oper} {act : Act} {w w' : World} {K : Act → World → Prop} {Q : Exit → Act → World → Prop} (h : (execOp act.eval o).run P w = .ok .skip w') (hk : K (act.put o.dst undef) w') : o.wp P act w K Q := by
  unfold Oper.wp
  rw [h]
  exact hk
theorem val_run {s : Sem Value} {w w' : World} {v : Value} (h : s.run P w = .ok v w') : ((do pure (Next.value (← s)) : Sem Next)).run P w = .ok (.value v) w' := by
  simp [h]
theorem unit_run {s : Sem Unit} {w w' : World} (h : s.run P w = .ok () w') : ((do s; pure Next.skip : Sem Next)).run P w = .ok .skip w' := by
  simp [h]
theorem rp_undef {ρ : Pm} : (AV.tup []).rp ρ undef := by
  simp only [AV.rp]
  exact ⟨#[], rfl, rps_nil.2 rfl⟩
theorem VRun.wp {o : Oper} {act : Act} {w : World} {K : Act → World → Prop} {Q : Exit → Act → World → Prop} {s : Sem Value} {ρ : Pm} {x : AV} {h' : Heap} (hv : VRun P B s ρ w x h') (he : execOp act.eval o = (do pure (Next.value (← s)))) (hk : ∀ ρ' v w', ρ.le ρ' → x.rp ρ' v → Rep B ρ' h' w' → Below B w w' → K (act.put o.dst v) w') : o.wp P act w K Q := by
  obtain ⟨ρ', v, w', h1, h2, h3, h4, h5⟩ := hv
  exact wp_val (by rw [he]; exact val_run h1) (hk ρ' v w' h2 h3 h4 h5)
theorem URun.wp {o : Oper} {act : Act} {w : World} {K : Act → World → Prop} {Q : Exit → Act → World → Prop} {s : Sem Unit} {ρ : Pm} {h' : Heap} (hv : URun P B s ρ w h') (he : execOp act.eval o = (do s; pure Next.skip)) (hk : ∀ ρ' v w', ρ.le ρ' → (AV.tup []).rp ρ' v → Rep B ρ' h' w' → Below B w w' → K (act.put o.dst v) w') : o.wp P act w K Q := by
  obtain ⟨ρ', w', h1, h2, h3, h4⟩ := hv
  exact wp_skp (by rw [he]; exact unit_run h1) (hk ρ' undef w' h2 rp_undef h3 h4)
theorem rps_one {ρ : Pm} {x : AV} {m : List Value} (h : AV.rps ρ [x] m) : ∃ v, m = [v] ∧ x.rp ρ v := by
  rw [rps_cons] at h
  obtain ⟨v, m', rfl, h1, h2⟩ := h
  rw [rps_nil] at h2
  subst h2
  exact ⟨v, rfl, h1⟩
theorem rps_two {ρ : Pm} {x y : AV} {m : List Value} (h : AV.rps ρ [x, y] m) : ∃ v u, m = [v, u] ∧ x.rp ρ v ∧ y.rp ρ u := by
  rw [rps_cons] at h
  obtain ⟨v, m', rfl, h1, h2⟩ := h
  obtain ⟨u, rfl, h3⟩ := rps_one h2
  exact ⟨v, u, rfl, h1, h3⟩
theorem arrAt_snd {ρ : Pm} {w : World} {t : TypeId} {x y : AV} {v : Value} (e : arrAtV P t x = some y) (hx : x.rp ρ v) : ∃ u, (Instr.arrayAt t v).run P w = .ok u w ∧ y.rp ρ u := by
  obtain ⟨p, h1, e⟩ := bind_some' (show (elA P t).bind _ = some y from e)
  have hu := elA_some h1
  cases x with
  | sl n o len cap =>
    obtain ⟨hle, e⟩ := bif_some e
    injection e with e
    subst e
    simp only [AV.rp] at hx
    obtain ⟨b, f, c, hn, rfl⟩ := hx
    have hle : ¬ len < p.1 := by rw [Nat.ble_eq] at hle; omega
    exact ⟨.pointer (some ⟨b, f + o, none⟩), by simp [Instr.arrayAt, run_underlying hu, hle], by simp only [AV.rp]; exact ⟨b, f, c, hn, rfl⟩⟩
  | os n z g len =>
    obtain ⟨hle, e⟩ := bif_some e
    rw [fNat_eq] at e
    injection e with e
    subst e
    simp only [AV.rp] at hx
    obtain ⟨b, f, c, hn, hlc, rfl⟩ := hx
    have hle : ¬ len < p.1 := by rw [Nat.ble_eq] at hle; omega
    exact ⟨.pointer (some ⟨b, f + g * z, none⟩), by simp [Instr.arrayAt, run_underlying hu, hle], by simp only [AV.rp]; exact ⟨b, f, c, hn, rfl⟩⟩
  | _ => cases e
theorem rps_take_drop {ρ : Pm} {l : List AV} {a b : List Value} (h : AV.rps ρ l (a ++ b)) : AV.rps ρ (takeL a.length l) a ∧ AV.rps ρ (dropL a.length l) b := by
  rw [takeL_eq, dropL_eq]
  have h1 := rps_take h a.length
  have h2 := rps_drop h a.length
  rw [List.take_left] at h1
  rw [List.drop_left] at h2
  exact ⟨h1, h2⟩
/-- Values that may lack: low, high, max of a slice. -/
theorem takeO_snd {ρ : Pm} {ev : Operand → Value} {o : Option Operand} {l : List AV} {m : List Value} {p : Option AV × List AV} (e : takeO o.isSome l = some p) (h : AV.rps ρ l ((o.toArray.toList.map ev) ++ m)) : rpo ρ p.1 (o.map ev) ∧ AV.rps ρ p.2 m := by
  cases o with
  | none =>
    injection e with e
    subst e
    exact ⟨trivial, h⟩
  | some a =>
    cases l with
    | nil => cases e
    | cons x l =>
      injection e with e
      subst e
      have h : AV.rps ρ (x :: l) (ev a :: m) := h
      rw [rps_cons] at h
      obtain ⟨v, m', h1, h2, h3⟩ := h
      injection h1 with h1 h4
      subst h1 h4
      exact ⟨h2, h3⟩
theorem rps_r1 {ρ : Pm} {l : List AV} {v : Value} (h : AV.rps ρ l [v]) : ∃ x, l = [x] ∧ x.rp ρ v := by
  cases l with
  | nil => rw [rps_nil] at h; cases h
  | cons x l =>
    rw [rps_cons] at h
    obtain ⟨y, m, h1, h2, h3⟩ := h
    injection h1 with h1 h4
    subst h1 h4
    cases l with
    | nil => exact ⟨x, rfl, h2⟩
    | cons z l => rw [rps_cons] at h3; obtain ⟨_, _, h5, _⟩ := h3; cases h5
theorem rps_r2 {ρ : Pm} {l : List AV} {v u : Value} (h : AV.rps ρ l [v, u]) : ∃ x y, l = [x, y] ∧ x.rp ρ v ∧ y.rp ρ u := by
  cases l with
  | nil => rw [rps_nil] at h; cases h
  | cons x l =>
    rw [rps_cons] at h
    obtain ⟨y, m, h1, h2, h3⟩ := h
    injection h1 with h1 h4
    subst h1 h4
    obtain ⟨z, rfl, h5⟩ := rps_r1 h3
    exact ⟨x, z, rfl, h2, h5⟩
theorem rps_r3 {ρ : Pm} {l : List AV} {v u q : Value} (h : AV.rps ρ l [v, u, q]) : ∃ x y z, l = [x, y, z] ∧ x.rp ρ v ∧ y.rp ρ u ∧ z.rp ρ q := by
  cases l with
  | nil => rw [rps_nil] at h; cases h
  | cons x l =>
    rw [rps_cons] at h
    obtain ⟨y, m, h1, h2, h3⟩ := h
    injection h1 with h1 h4
    subst h1 h4
    obtain ⟨a, b, rfl, h5, h6⟩ := rps_r2 h3
    exact ⟨x, a, b, rfl, h2, h5, h6⟩
theorem rps_cons' {ρ : Pm} {l : List AV} {v : Value} {m : List Value} (h : AV.rps ρ l (v :: m)) : ∃ x k, l = x :: k ∧ x.rp ρ v ∧ AV.rps ρ k m := by
  cases l with
  | nil => rw [rps_nil] at h; cases h
  | cons x l =>
    rw [rps_cons] at h
    obtain ⟨y, m', h1, h2, h3⟩ := h
    injection h1 with h1 h4
    subst h1 h4
    exact ⟨x, l, rfl, h2, h3⟩
theorem rps_l1 {ρ : Pm} {x : AV} {vs : Array Value} (h : AV.rps ρ [x] vs.toList) : ∃ v, vs = #[v] ∧ x.rp ρ v := by
  obtain ⟨v, h1, h2⟩ := rps_one h
  exact ⟨v, by rw [← Array.toArray_toList (xs := vs), h1], h2⟩
theorem rps_l2 {ρ : Pm} {x y : AV} {vs : Array Value} (h : AV.rps ρ [x, y] vs.toList) : ∃ v u, vs = #[v, u] ∧ x.rp ρ v ∧ y.rp ρ u := by
  obtain ⟨v, u, h1, h2, h3⟩ := rps_two h
  exact ⟨v, u, by rw [← Array.toArray_toList (xs := vs), h1], h2, h3⟩
theorem builtM_snd {ρ : Pm} {w : World} {b : Builtin} {ts : Array TypeId} {ty : TypeId} {cs : Array Bool} {args : List AV} {vs : Array Value} {lo : Nat} {h : Heap} {c : Nat} {lg : List Ev} {y : AV} {h' : Heap} {c' : Nat} {lg' : List Ev} (e : builtM P b ts args lo h c lg = .ok y h' c' lg') (hr : Rep B ρ h w) (hv : AV.rps ρ args vs.toList) :
    ∃ s, VRun P B s ρ w y h' ∧ builtin b ts ty cs vs = (do pure (Next.value (← s))) := by
  unfold builtM at e
  split at e
  · obtain ⟨d, h1, e⟩ := need_ok e
    obtain ⟨t, h2, h1⟩ := bind_some' h1
    obtain ⟨v, rfl, hx⟩ := rps_l1 hv
    exact ⟨_, len_snd (ty := ty) h2 h1 e hr hx, rfl⟩
  · obtain ⟨d, h1, e⟩ := need_ok e
    obtain ⟨t, h2, h1⟩ := bind_some' h1
    obtain ⟨v, rfl, hx⟩ := rps_l1 hv
    exact ⟨_, cap_snd (ty := ty) h2 h1 e hr hx, rfl⟩
  · obtain ⟨v, u, rfl, hx, hy⟩ := rps_l2 hv
    exact ⟨_, appA_snd (ty := ty) e hr hx hy, rfl⟩
  · obtain ⟨v, u, rfl, hx, hy⟩ := rps_l2 hv
    exact ⟨_, copy_snd (ty := ty) e hr hx hy, rfl⟩
  · obtain ⟨t, h2, e⟩ := need_ok e
    obtain ⟨v, u, rfl, hx, hy⟩ := rps_l2 hv
    exact ⟨_, del_snd (ty := ty) h2 e hr hx hy, rfl⟩
  · obtain ⟨d, h1, e⟩ := need_ok e
    obtain ⟨t, h2, h1⟩ := bind_some' h1
    obtain ⟨v, rfl, hx⟩ := rps_l1 hv
    exact ⟨_, clear_snd (ty := ty) h2 h1 e hr hx, rfl⟩
  · obtain ⟨r, h1, e⟩ := need_ok e
    obtain ⟨rfl, rfl, _, _⟩ := ret_ok e
    rw [rps_cons] at hv
    obtain ⟨v, m, h2, hx, hl⟩ := hv
    obtain ⟨u, k1, k2⟩ := min_snd (P := P) (w := w) h1 hx hl
    exact ⟨Builtin.min_ ts ty vs, VRun.here (by unfold Builtin.min_; rw [h2]; exact k1) k2 hr, rfl⟩
  · obtain ⟨r, h1, e⟩ := need_ok e
    obtain ⟨rfl, rfl, _, _⟩ := ret_ok e
    rw [rps_cons] at hv
    obtain ⟨v, m, h2, hx, hl⟩ := hv
    obtain ⟨u, k1, k2⟩ := max_snd (P := P) (w := w) h1 hx hl
    exact ⟨Builtin.max_ ts ty vs, VRun.here (by unfold Builtin.max_; rw [h2]; exact k1) k2 hr, rfl⟩
  · cases e
/-- A value that is told at once. -/
theorem pure_wp {o : Oper} {act : Act} {w : World} {K : Act → World → Prop} {Q : Exit → Act → World → Prop} {ρ : Pm} {x y : AV} {v : Value} {lo : Nat} {h : Heap} {c : Nat} {lg : List Ev} {h' : Heap} {c' : Nat} {lg' : List Ev} (e : ret x lo h c lg = .ok y h' c' lg') (hr : Rep B ρ h w) (hx : x.rp ρ v)
    (hrun : (execOp act.eval o).run P w = .ok (.value v) w) (hk : ∀ ρ' v w', ρ.le ρ' → y.rp ρ' v → Rep B ρ' h' w' → Below B w w' → K (act.put o.dst v) w') : o.wp P act w K Q := by
  obtain ⟨rfl, rfl, _, _⟩ := ret_ok e
  exact wp_val hrun (hk ρ v w (Pm.le.refl ρ) hx hr (Below.refl _ _))
theorem needL_ok {α β : Type} {o : Option α} {why : List Nat} {g : α → M β} {lo : Nat} {h : Heap} {c : Nat} {lg : List Ev} {x : β} {h' : Heap} {c' : Nat} {lg' : List Ev} (e : needL o why g lo h c lg = .ok x h' c' lg') : ∃ a, o = some a ∧ g a lo h c lg = .ok x h' c' lg' := by
  cases o with
  | none => cases e
  | some a => exact ⟨a, rfl, e⟩
set_option maxHeartbeats 1000000 in
theorem exOp_snd {call : FuncId → List AV → M AV} (hcall : CallSnd P B ρ0 call) : OpSnd P B ρ0 (exOp P call) := by
  intro o args lo h c lg x h' c' lg' e ρ act w K Q hle hr hv hk
  obtain ⟨dst, op, type, pos, after, guard⟩ := o
  cases op with
  | move a =>
    obtain ⟨y, rfl, hy⟩ := rps_r1 hv
    exact pure_wp (show ret y lo h c lg = .ok x h' c' lg' from e) hr hy rfl hk
  | assign a =>
    obtain ⟨y, rfl, hy⟩ := rps_r1 hv
    exact pure_wp (show ret y lo h c lg = .ok x h' c' lg' from e) hr hy rfl hk
  | pick a b d =>
    obtain ⟨q, y, z, rfl, hq, hy, hz⟩ := rps_r3 hv
    cases q with
    | bool r =>
      simp only [AV.rp] at hq
      have e : ret (pick3 y z r) lo h c lg = .ok x h' c' lg' := e
      cases r with
      | true => exact pure_wp e hr hy (by simp [execOp, hq, asBool]) hk
      | false => exact pure_wp e hr hz (by simp [execOp, hq, asBool]) hk
    | _ => cases e
  | alloc t =>
    obtain ⟨z, hz, e⟩ := need_ok (show need (zeroO P t) 120 (fun z => boxM t z) lo h c lg = .ok x h' c' lg' from e)
    obtain ⟨zv, h1, h2, _, _⟩ := run_zeroO hz w
    obtain ⟨ρ', v, w', k1, k2, k3, k4, k5⟩ := box_snd (P := P) e hr (h2 ρ)
    refine VRun.wp (s := Instr.alloc t true (.tuple #[])) ⟨ρ', v, w', ?_, k2, k3, k4, k5⟩ rfl hk
    rw [← k1]
    simp [Instr.alloc, h1]
  | box t a =>
    obtain ⟨y, rfl, hy⟩ := rps_r1 hv
    exact VRun.wp (box_snd (P := P) (show boxM t y lo h c lg = .ok x h' c' lg' from e) hr hy) rfl hk
  | build t ps =>
    obtain ⟨y, hy, e⟩ := need_ok (show need (buildV P t (zipP ps.toList args)) 121 (fun x => ret x) lo h c lg = .ok x h' c' lg' from e)
    obtain ⟨rfl, rfl, _, _⟩ := ret_ok e
    have hv : AV.rps ρ args ((ps.toList.map (·.2)).map act.eval) := by simpa [Op.operands] using hv
    obtain ⟨u, k1, k2⟩ := build_snd (P := P) (w := w) (parts := ps.map fun p => (p.1, act.eval p.2)) hy (by simpa using zipP_prel hv)
    exact VRun.wp (VRun.here k1 k2 hr) rfl hk
  | buildSlice t n ps =>
    have hv : AV.rps ρ args ((ps.toList.map (·.2)).map act.eval) := by simpa [Op.operands] using hv
    exact VRun.wp (buildSlice_snd (P := P) (parts := ps.map fun p => (p.1, act.eval p.2)) (show buildSliceM P t n (zipP ps.toList args) lo h c lg = .ok x h' c' lg' from e) hr (by simpa using zipP_prel hv)) rfl hk
  | load t a =>
    obtain ⟨y, rfl, hy⟩ := rps_r1 hv
    exact VRun.wp (load_snd (P := P) (show loadM P t y lo h c lg = .ok x h' c' lg' from e) hr hy) rfl hk
  | store t a b =>
    obtain ⟨y, z, rfl, hy, hz⟩ := rps_r2 hv
    obtain ⟨rfl, hu⟩ := store_snd (P := P) (show storeM P t y z lo h c lg = .ok x h' c' lg' from e) hr hy hz
    exact URun.wp hu rfl hk
  | nilCheck a =>
    obtain ⟨y, rfl, hy⟩ := rps_r1 hv
    cases y with
    | ptr n o =>
      have hy0 := hy
      simp only [AV.rp] at hy
      obtain ⟨b, f, cc, hn, hva⟩ := hy
      exact pure_wp (show ret (AV.ptr n o) lo h c lg = .ok x h' c' lg' from e) hr hy0 (by simp [execOp, hva]) hk
    | _ => cases e
  | binOp op t a b t2 =>
    obtain ⟨y, z, rfl, hy, hz⟩ := rps_r2 hv
    obtain ⟨r, h1, e⟩ := needL_ok (show needL (binV P op t (isConst a) (isConst b) y z) (askE y z) (fun x => ret x) lo h c lg = .ok x h' c' lg' from e)
    obtain ⟨rfl, rfl, _, _⟩ := ret_ok e
    obtain ⟨v, k1, k2⟩ := binV_snd (P := P) (w := w) h1 hy hz
    exact VRun.wp (VRun.here k1 k2 hr) rfl hk
  | unOp op t a =>
    obtain ⟨y, rfl, hy⟩ := rps_r1 hv
    obtain ⟨r, h1, e⟩ := need_ok (show need (unV op y) 123 (fun x => ret x) lo h c lg = .ok x h' c' lg' from e)
    obtain ⟨rfl, rfl, _, _⟩ := ret_ok e
    obtain ⟨v, k1, k2⟩ := unV_snd (P := P) (w := w) h1 hy
    exact VRun.wp (VRun.here k1 k2 hr) rfl hk
  | convert s d a =>
    obtain ⟨y, rfl, hy⟩ := rps_r1 hv
    exact VRun.wp (conv_snd (P := P) (show convV P s d y lo h c lg = .ok x h' c' lg' from e) hr hy) rfl hk
  | sliceToArrayPointer t a =>
    obtain ⟨y, rfl, hy⟩ := rps_r1 hv
    obtain ⟨r, h1, e⟩ := need_ok (show need (arrAtV P t y) 132 (fun x => ret x) lo h c lg = .ok x h' c' lg' from e)
    obtain ⟨rfl, rfl, _, _⟩ := ret_ok e
    obtain ⟨v, k1, k2⟩ := arrAt_snd (w := w) h1 hy
    exact VRun.wp (VRun.here k1 k2 hr) rfl hk
  | makeInterface t a =>
    obtain ⟨y, rfl, hy⟩ := rps_r1 hv
    obtain ⟨h1, e⟩ := want_ok (show want (notIfc P t) 133 (ret (AV.iface t y)) lo h c lg = .ok x h' c' lg' from e)
    obtain ⟨rfl, rfl, _, _⟩ := ret_ok e
    refine VRun.wp (VRun.here (s := Instr.makeInterface t (act.eval a)) (v := .iface t (act.eval a)) ?_ (by simp only [AV.rp]; exact ⟨_, rfl, hy⟩) hr) rfl hk
    unfold notIfc at h1
    cases hu : P.underlying t with
    | none => rw [hu] at h1; cases h1
    | some d =>
      rw [hu] at h1
      cases d <;> first
        | (simp [Instr.makeInterface, run_underlying hu]; done)
        | cases h1
  | makeFunc fn fs cs =>
    have hv : AV.rps ρ args ((fs.toList.map act.eval) ++ (cs.toList.map act.eval)) := by simpa [Op.operands] using hv
    have e : ret (AV.func fn (takeL fs.size args) (dropL fs.size args)) lo h c lg = .ok x h' c' lg' := e
    obtain ⟨k1, k2⟩ := rps_take_drop hv
    simp only [List.length_map, Array.length_toList] at k1 k2
    refine pure_wp e hr (v := .func fn (fs.map act.eval) (cs.map act.eval)) ?_ rfl hk
    simp only [AV.rp]
    exact ⟨_, _, rfl, by simpa using k1, by simpa using k2⟩
  | makeMap t r =>
    cases r with
    | none =>
      rw [show args = [] from by
        have hv : AV.rps ρ args [] := by simpa [Op.operands] using hv
        cases args with
        | nil => rfl
        | cons x l => rw [rps_cons] at hv; obtain ⟨_, _, h, _⟩ := hv; cases h] at e
      exact VRun.wp (mkmap_snd (P := P) (show (bnd (new (.mp [])) fun n => ret (AV.map n)) lo h c lg = .ok x h' c' lg' from e) hr) rfl hk
    | some a =>
      obtain ⟨y, rfl, hy⟩ := rps_r1 (show AV.rps ρ args [act.eval a] by simpa [Op.operands] using hv)
      cases y with
      | int k n =>
        obtain ⟨p, hp, e⟩ := need_ok (show need (mapT P t) 134 (fun _ => bnd (new (.mp [])) fun n => ret (AV.map n)) lo h c lg = .ok x h' c' lg' from e)
        obtain ⟨kt, hu, hd⟩ := mapT_some hp
        obtain ⟨ρ', v, w', k1, k2, k3, k4, k5⟩ := mkmap_snd (P := P) e hr
        simp only [AV.rp] at hy
        exact VRun.wp (s := Instr.makeMap t (some (act.eval a))) ⟨ρ', v, w', by rw [hy, ← k1]; simp [Instr.makeMap, run_underlying hu, asInt, asIntOf], k2, k3, k4, k5⟩ rfl hk
      | _ => cases e
  | makeSlice t l k =>
    obtain ⟨y, z, rfl, hy, hz⟩ := rps_r2 hv
    exact VRun.wp (makeSlice_snd (P := P) (show makeSliceM P t y z lo h c lg = .ok x h' c' lg' from e) hr hy hz) rfl hk
  | slice t a lo2 hi mx =>
    cases args with
    | nil => cases e
    | cons y l =>
      have hv : AV.rps ρ (y :: l) (act.eval a :: ((lo2.toArray.toList.map act.eval) ++ ((hi.toArray.toList.map act.eval) ++ ((mx.toArray.toList.map act.eval) ++ [])))) := by
        simpa [Op.operands] using hv
      rw [rps_cons] at hv
      obtain ⟨v, m, h1, hy, hl⟩ := hv
      injection h1 with h1 h2
      subst h1 h2
      obtain ⟨s, h3, e⟩ := need_ok (show need ((takeO lo2.isSome l).bind fun p => (takeO hi.isSome p.2).bind fun q => (takeO mx.isSome q.2).map fun r => (p.1, q.1, r.1)) 124 (fun s => sliceM P t y s.1 s.2.1 s.2.2) lo h c lg = .ok x h' c' lg' from e)
      obtain ⟨p, h4, h3⟩ := bind_some' h3
      obtain ⟨q, h5, h3⟩ := bind_some' h3
      obtain ⟨r, h6, h3⟩ := Option.map_eq_some_iff.1 h3
      subst h3
      obtain ⟨k1, k2⟩ := takeO_snd h4 hl
      obtain ⟨k3, k4⟩ := takeO_snd h5 k2
      obtain ⟨k5, _⟩ := takeO_snd h6 k4
      obtain ⟨rfl, u, k6, k7⟩ := sliceM_snd (P := P) (w := w) e hr hy k1 k3 k5
      exact VRun.wp (VRun.here k6 k7 hr) rfl hk
  | fieldAddr t a f =>
    obtain ⟨y, rfl, hy⟩ := rps_r1 hv
    obtain ⟨r, h1, e⟩ := need_ok (show need (fieldAddrV P t y f) 125 (fun x => ret x) lo h c lg = .ok x h' c' lg' from e)
    obtain ⟨rfl, rfl, _, _⟩ := ret_ok e
    obtain ⟨v, k1, k2⟩ := fieldAddr_snd (P := P) (w := w) h1 hy
    exact VRun.wp (VRun.here k1 k2 hr) rfl hk
  | field t a f =>
    obtain ⟨y, rfl, hy⟩ := rps_r1 hv
    obtain ⟨r, h1, e⟩ := need_ok (show need (fieldV P t y f) 126 (fun x => ret x) lo h c lg = .ok x h' c' lg' from e)
    obtain ⟨rfl, rfl, _, _⟩ := ret_ok e
    obtain ⟨v, k1, k2⟩ := field_snd (P := P) (w := w) h1 hy
    exact VRun.wp (VRun.here k1 k2 hr) rfl hk
  | indexAddr t a b =>
    obtain ⟨y, z, rfl, hy, hz⟩ := rps_r2 hv
    obtain ⟨r, h1, e⟩ := need_ok (show need (indexAddrV P t y z) 127 (fun x => ret x) lo h c lg = .ok x h' c' lg' from e)
    obtain ⟨rfl, rfl, _, _⟩ := ret_ok e
    obtain ⟨v, k1, k2⟩ := indexAddr_snd (P := P) (w := w) h1 hy hz
    exact VRun.wp (VRun.here k1 k2 hr) rfl hk
  | index t a b =>
    obtain ⟨y, z, rfl, hy, hz⟩ := rps_r2 hv
    obtain ⟨r, h1, e⟩ := need_ok (show need (indexV P t y z) 128 (fun x => ret x) lo h c lg = .ok x h' c' lg' from e)
    obtain ⟨rfl, rfl, _, _⟩ := ret_ok e
    obtain ⟨v, k1, k2⟩ := index_snd (P := P) (w := w) h1 hy hz
    exact VRun.wp (VRun.here k1 k2 hr) rfl hk
  | lookup t a b ok =>
    obtain ⟨y, z, rfl, hy, hz⟩ := rps_r2 hv
    exact VRun.wp (look_snd (P := P) (show lookM P t y z ok lo h c lg = .ok x h' c' lg' from e) hr hy hz) rfl hk
  | mapUpdate t a b d =>
    obtain ⟨y, z, q, rfl, hy, hz, hq⟩ := rps_r3 hv
    obtain ⟨rfl, hu⟩ := upd_snd (P := P) (show updM P t y z q lo h c lg = .ok x h' c' lg' from e) hr hy hz hq
    exact URun.wp hu rfl hk
  | insert t a b d =>
    obtain ⟨y, z, q, rfl, hy, hz, hq⟩ := rps_r3 hv
    obtain ⟨rfl, hu⟩ := upd_snd (P := P) (show updM P t y z q lo h c lg = .ok x h' c' lg' from e) hr hy hz hq
    exact URun.wp hu rfl hk
  | extract a i =>
    obtain ⟨y, rfl, hy⟩ := rps_r1 hv
    cases y with
    | tup l =>
      obtain ⟨r, h1, e⟩ := need_ok (show need (nthL l i) 129 (fun x => ret x) lo h c lg = .ok x h' c' lg' from e)
      obtain ⟨rfl, rfl, _, _⟩ := ret_ok e
      rw [nthL_eq] at h1
      simp only [AV.rp] at hy
      obtain ⟨vs, hvs, hl⟩ := hy
      obtain ⟨v, h2, h3⟩ := (rps_at.1 hl).2 i _ h1
      have h2 : vs[i]? = some v := by simpa using h2
      exact VRun.wp (VRun.here (s := Instr.extract (act.eval a) i) (by rw [hvs]; simp [Instr.extract, h2]) h3 hr) rfl hk
    | _ => cases e
  | call cl =>
    obtain ⟨callee, cargs, cts⟩ := cl
    cases callee with
    | builtin b =>
      have hv : AV.rps ρ args (cargs.map act.eval).toList := by simpa [Op.operands, Call.operands] using hv
      obtain ⟨s, hs, hb⟩ := builtM_snd (P := P) (ty := type) (cs := cargs.map fun | .const _ => true | _ => false) (show builtM P b cts args lo h c lg = .ok x h' c' lg' from e) hr hv
      obtain ⟨ρ', v, w', k1, k2, k3, k4, k5⟩ := hs
      refine wp_val (w' := w') ?_ (hk ρ' v w' k2 k3 k4 k5)
      show ((resolve act.eval ⟨.builtin b, cargs, cts⟩ type) >>= fun d => invoke d.target d.args).run P w = _
      show ((Sem.pure _ : Sem Deferred) >>= fun d => invoke d.target d.args).run P w = _
      show (builtin b cts type (cargs.map fun | .const _ => true | _ => false) (cargs.map act.eval)).run P w = _
      exact (congrArg (fun s => s.run P w) hb).trans (val_run k1)
    | invoke r m => cases e
    | value fo =>
      cases args with
      | nil => cases e
      | cons fv args =>
        have hv : AV.rps ρ (fv :: args) (act.eval fo :: (cargs.map act.eval).toList) := by simpa [Op.operands, Call.operands] using hv
        rw [rps_cons] at hv
        obtain ⟨vf, m, h1, hf, hl⟩ := hv
        injection h1 with h1 h2
        cases fv with
        | func fn first caps =>
          cases fn with
          | func f =>
            have e : call f (appL first (appL args caps)) lo h c lg = .ok x h' c' lg' := e
            rw [appL_eq, appL_eq] at e
            simp only [AV.rp] at hf
            obtain ⟨f', c2, hfe, hf1, hf2⟩ := hf
            rw [hfe] at h1
            subst h2
            have hvs : AV.rps ρ (first ++ (args ++ caps)) (f' ++ cargs.map act.eval ++ c2).toList := by
              rw [Array.toList_append, Array.toList_append, List.append_assoc]
              exact rps_append hf1 (rps_append hl hf2)
            have hex : (execOp act.eval ⟨dst, .call ⟨.value fo, cargs, cts⟩, type, pos, after, guard⟩).run P w = (callFunc f (f' ++ cargs.map act.eval ++ c2)).run P w := by
              show ((resolve act.eval ⟨.value fo, cargs, cts⟩ type) >>= fun d => invoke d.target d.args).run P w = _
              show ((Deferred.ofValue (act.eval fo) (cargs.map act.eval)) >>= fun d => invoke d.target d.args).run P w = _
              rw [h1]
              rfl
            rcases hcall f _ lo h c lg x h' c' lg' e ρ w _ hle hr hvs with ⟨k1, k2⟩ | ⟨ρ', v, w', k1, k2, k3, k4, k5⟩
            · unfold Oper.wp
              rw [hex, k1]
              refine k2.mono ?_
              rintro e2 w2 ⟨ρ', v, rfl, l1, l2, l3, l4⟩
              exact hk ρ' v w2 l1 l2 l3 l4
            · exact wp_val (by rw [hex, k1]) (hk ρ' v w' k2 k3 k4 k5)
          | _ => cases e
        | _ => cases e
  | _ => cases e
end
end Go.Proofs.YtdflkikhmngfiaaGreatDoor

