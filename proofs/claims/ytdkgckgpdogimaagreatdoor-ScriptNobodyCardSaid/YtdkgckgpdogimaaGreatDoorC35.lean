/- Operations on what is not known: the table is sound. -/
import Derived.Test.YtdkgckgpdogimaaGreatDoorC34
namespace Go.Proofs.YtdkgckgpdogimaaGreatDoor
open Go.RowKit
set_option linter.unusedVariables false
set_option linter.unusedSimpArgs false
set_option linter.unusedSectionVars false
variable [Sy] [Dc] [DcOK]
section
variable {P : Program} {B : Nat} {ρ0 ρ : Pm} {h : Heap} {w : World}
theorem cellsX_cons (e i : Xp) (z : Nat) (s : Sh) (el : List Sh) (j : Nat) : cellsX e i z (s :: el) j = .sx s (.get e i z j) :: cellsX e i z el (j + 1) := rfl
/-- The cells of an element, in memory. -/
theorem cellsX_rp {F : Fz} {ρ : Pm} (hF : ρ.fz = F) {e i : Xp} {z : Nat} {c : List PV} (hx : (e.den.l.getD i.den.i.toNat default).row z = c) : ∀ {el : List Sh} {j : Nat} {f : Nat → Option Value}, Sh.rps F el (c.drop j) f → ∃ u : List Value, AV.rps ρ (cellsX e i z el j) u ∧ ∀ q v, u[q]? = some v → f q = some v
  | [], j, f, h => ⟨[], rps_nil.2 rfl, fun q v hq => by simp at hq⟩
  | s :: el, j, f, h => by
    simp only [Sh.rps] at h
    obtain ⟨⟨u, h1, h2⟩, h3⟩ := h
    rw [List.tail_drop] at h3
    obtain ⟨us, k1, k2⟩ := cellsX_rp hF hx h3
    refine ⟨u :: us, rps_cons.2 ⟨u, us, rfl, ?_, k1⟩, fun q v hq => ?_⟩
    · simp only [AV.rp]
      show s.rp ρ.fz (((e.den.l.getD i.den.i.toNat default).row z).getD j default) u
      rw [hx, hF, show c.getD j default = (c.drop j).headD default by simp [List.getD_eq_getElem?_getD, List.headD_eq_head?_getD]]
      exact h2
    · cases q with
      | zero => simp at hq; subst hq; exact h1
      | succ q => exact k2 q v (by simpa using hq)
theorem fp_drop {l : List AV} {v : Value} (h : (AV.fp l).rp ρ v) (k : Nat) : ∃ b o, v = .pointer (some ⟨b, o, none⟩) ∧ (AV.fp (dropL k l)).rp ρ (.pointer (some ⟨b, o + k, none⟩)) := by
  simp only [AV.rp] at h ⊢
  obtain ⟨b, o, u, rfl, h1, h2⟩ := h
  refine ⟨b, o, rfl, b, o + k, u.drop k, rfl, by rw [dropL_eq]; exact rps_drop h1 k, fun i x hi => ?_⟩
  rw [List.getElem?_drop] at hi
  rw [Nat.add_assoc]
  exact h2 _ _ hi
theorem symIdxA_snd {t : TypeId} {x i z : AV} (e : symIdxA P t x i = .val z) {v u : Value} (hx : x.rp ρ v) (hi : i.rp ρ u) : ∃ r, (Instr.indexAt t v u).run P w = .ok r w ∧ z.rp ρ r := by
  unfold symIdxA at e
  split at e
  · rename_i l
    cases i with
    | int k n =>
      obtain ⟨p, h1, e⟩ := optT_val e
      obtain ⟨j, h2, e⟩ := optT_val e
      obtain ⟨sz, h3, e⟩ := optT_val e
      injection e with e
      subst e
      obtain ⟨rfl, hj⟩ := inI_some h2
      simp only [AV.rp] at hi
      subst hi
      obtain ⟨b, o, rfl, h4⟩ := fp_drop hx (j * sz)
      have hj2 : (j : Int) < (p.1 : Int) := by omega
      refine ⟨.pointer (some ⟨b, o + j * sz, none⟩), ?_, h4⟩
      simp [Instr.indexAt, asIntOf, run_underlying (elA_some h1), Instr.sureAddr, run_szO h3, hj, hj2, addr_add]
    | _ => cases e
  · obtain ⟨p, h1, e⟩ := optT_val e
    obtain ⟨q, h2, e⟩ := optT_val e
    obtain ⟨et, h3, e⟩ := optT_val e
    obtain ⟨k, h4, e⟩ := optT_val e
    obtain ⟨h5, e⟩ := iffT_val e
    obtain ⟨h6, e⟩ := must_val e
    injection e with e
    subst e
    rw [Nat.beq_eq, lenL_eq] at h5
    obtain ⟨a, c, rfl, hc, hl⟩ := lst_cells (xl_rp h1 hx)
    obtain ⟨h7, h8⟩ := den_inb h6
    have h8 : q.2.den.i < (p.2.den.l.length : Int) := h8
    rw [xi_rp h2 hi]
    rcases hl with hl | ⟨b, o, rfl, hl⟩
    · rw [hl] at h8; simp at h8; omega
    · obtain ⟨n, hn⟩ : ∃ n : Nat, q.2.den.i = (n : Int) := ⟨q.2.den.i.toNat, by omega⟩
      have hn2 : n < p.2.den.l.length := by omega
      refine ⟨.pointer (some ⟨b, o + n * k, none⟩), ?_, ?_⟩
      · rw [hn]
        have hj2 : (n : Int) < (p.2.den.l.length : Int) := by omega
        simp [Instr.indexAt, asIntOf, run_underlying (elS_some h3), run_szO h4, hn2, hj2, addr_add]
      · have hx2 : (p.2.den.l.getD q.2.den.i.toNat default).row k = p.2.den.l[n].row p.1.length := by
          rw [hn, h5]
          simp [List.getD, hn2]
        obtain ⟨us, k1, k2⟩ := cellsX_rp (j := 0) rfl hx2 (hl n p.2.den.l[n] (List.getElem?_eq_getElem hn2))
        simp only [AV.rp]
        refine ⟨b, o + n * k, us, rfl, k1, fun i x hi => ?_⟩
        have := k2 i x hi
        rw [← h5]
        exact this
theorem symIdx_snd {t : TypeId} {x i z : AV} (e : symIdx P t x i = .val z) {v u : Value} (hx : x.rp ρ v) (hi : i.rp ρ u) : ∃ r, (Instr.index t v u).run P w = .ok r w ∧ z.rp ρ r := by
  obtain ⟨d, hd, e⟩ := optT_val e
  cases d with
  | string =>
    obtain ⟨a, h1, e⟩ := optT_val e
    obtain ⟨q, h2, e⟩ := optT_val e
    obtain ⟨h3, e⟩ := must_val e
    injection e with e
    obtain ⟨h4, h5⟩ := den_inb h3
    have h5 : q.2.den.i < (a.den.s.size : Int) := h5
    rw [xs_rp h1 hx, xi_rp h2 hi, ← e]
    obtain ⟨n, hn⟩ : ∃ n : Nat, q.2.den.i = (n : Int) := ⟨q.2.den.i.toNat, by omega⟩
    have hn2 : n < a.den.s.size := by omega
    refine ⟨.int .u8 ((a.den.s[n]'hn2).toNat : Int), ?_, sx_int ?_⟩
    · rw [hn]
      have hg : a.den.s[n]? = some (a.den.s[n]'hn2) := getElem?_pos a.den.s n hn2
      have hj2 : (n : Int) < (a.den.s.size : Int) := by omega
      simp [Instr.index, asIntOf, run_underlying hd, hg]
    · show _ = Value.int .u8 (((a.den.s.data.toList.getD q.2.den.i.toNat 0).toNat : Nat) : Int)
      rw [hn]
      have hn3 : n < a.den.s.data.toList.length := by simpa using hn2
      have : a.den.s.data.toList.getD ((n : Int)).toNat 0 = a.den.s[n]'hn2 := by
        rw [show ((n : Int)).toNat = n from rfl, List.getD_eq_getElem?_getD, List.getElem?_eq_getElem hn3]
        rfl
      rw [this]
  | _ => cases e
theorem bndX_rp {d : Xp} {o : Option AV} {l : Xp} (e : bndX d o = some l) {vo : Option Value} (h : rpo ρ o vo) : (o = none ∧ vo = none ∧ l = d) ∨ ∃ k, vo = some (.int k l.den.i) := by
  cases o with
  | none => injection e with e; exact .inl ⟨rfl, rpo_none h, e.symm⟩
  | some x =>
    obtain ⟨p, h1, rfl⟩ := Option.map_eq_some_iff.1 (show (xi x).map (·.2) = some l from e)
    cases vo with
    | none => exact h.elim
    | some v => exact .inr ⟨p.1, by rw [xi_rp h1 h]⟩
theorem run_bnd {s : Bool} {len cap l h : Nat} {lo hi : Option Value} (h1 : (lo = none ∧ l = 0) ∨ ∃ k, lo = some (.int k (l : Int))) (h2 : (hi = none ∧ h = len) ∨ ∃ k, hi = some (.int k (h : Int))) (h3 : l ≤ h) (h4 : h ≤ cap) (h5 : len ≤ cap) : (Instr.sliceBounds s len cap lo hi none).run P w = .ok (l, h, cap) w := by
  unfold Instr.sliceBounds
  rcases h1 with ⟨rfl, rfl⟩ | ⟨k1, rfl⟩
  · rcases h2 with ⟨rfl, rfl⟩ | ⟨k2, rfl⟩
    · simp
    · simp [run_bound _ _ _ h4]
  · rcases h2 with ⟨rfl, rfl⟩ | ⟨k2, rfl⟩
    · simp [run_bound _ _ _ h3]
    · simp [run_bound _ _ _ h4, run_bound _ _ _ h3]
theorem symSl_snd {t : TypeId} {x z : AV} {lo hi : Option AV} (e : symSl P t x lo hi = .val z) {v : Value} {vl vh : Option Value} (hx : x.rp ρ v) (hl : rpo ρ lo vl) (hh : rpo ρ hi vh) : ∃ u, (Instr.sliceAt t v vl vh none).run P w = .ok u w ∧ z.rp ρ u := by
  obtain ⟨d, hd, e⟩ := optT_val e
  cases d with
  | string =>
    obtain ⟨a, h1, e⟩ := optT_val e
    obtain ⟨l, h2, e⟩ := optT_val e
    obtain ⟨hx2, h3, e⟩ := optT_val e
    obtain ⟨h4, e⟩ := must_val e
    injection e with e
    obtain ⟨p1, p2, p3⟩ := den_rng h4
    have p3 : hx2.den.i ≤ (a.den.s.size : Int) := p3
    obtain ⟨nl, hnl⟩ : ∃ n : Nat, l.den.i = (n : Int) := ⟨l.den.i.toNat, by omega⟩
    obtain ⟨nh, hnh⟩ : ∃ n : Nat, hx2.den.i = (n : Int) := ⟨hx2.den.i.toNat, by omega⟩
    have q1 : (vl = none ∧ nl = 0) ∨ ∃ k, vl = some (.int k (nl : Int)) := by
      rcases bndX_rp h2 hl with ⟨_, h, rfl⟩ | ⟨k, h⟩
      · refine .inl ⟨h, ?_⟩
        have hnl : (0 : Int) = nl := hnl
        omega
      · exact .inr ⟨k, by rw [h, hnl]⟩
    have q2 : (vh = none ∧ nh = a.den.s.size) ∨ ∃ k, vh = some (.int k (nh : Int)) := by
      rcases bndX_rp h3 hh with ⟨_, h, rfl⟩ | ⟨k, h⟩
      · refine .inl ⟨h, ?_⟩
        have hnh : (a.den.s.size : Int) = nh := hnh
        omega
      · exact .inr ⟨k, by rw [h, hnh]⟩
    have hb := run_bnd (P := P) (w := w) (s := false) (cap := a.den.s.size) q1 q2 (by omega) (by omega) (Nat.le_refl _)
    rw [xs_rp h1 hx, ← e]
    refine ⟨.string (a.den.s.extract nl nh), ?_, sx_str ?_⟩
    · rw [sliceAt_other (fun n e hh => by rw [hd] at hh; cases hh) hd]
      simp [Instr.slice, run_underlying hd, hb]
    · show _ = Value.string (a.den.s.extract l.den.i.toNat hx2.den.i.toNat)
      rw [hnl, hnh]
      rfl
  | slice et =>
    obtain ⟨p, h1, e⟩ := optT_val e
    obtain ⟨k, hk, e⟩ := optT_val e
    obtain ⟨h5, e⟩ := iffT_val e
    obtain ⟨l, h2, e⟩ := optT_val e
    obtain ⟨hx2, h3, e⟩ := optT_val e
    obtain ⟨h4, e⟩ := must_val e
    injection e with e
    rw [Nat.beq_eq, lenL_eq] at h5
    obtain ⟨p1, p2, p3⟩ := den_rng h4
    have p3 : hx2.den.i ≤ (p.2.den.l.length : Int) := p3
    obtain ⟨nl, hnl⟩ : ∃ n : Nat, l.den.i = (n : Int) := ⟨l.den.i.toNat, by omega⟩
    obtain ⟨nh, hnh⟩ : ∃ n : Nat, hx2.den.i = (n : Int) := ⟨hx2.den.i.toNat, by omega⟩
    have q1 : (vl = none ∧ nl = 0) ∨ ∃ k, vl = some (.int k (nl : Int)) := by
      rcases bndX_rp h2 hl with ⟨_, h, rfl⟩ | ⟨k, h⟩
      · refine .inl ⟨h, ?_⟩
        have hnl : (0 : Int) = nl := hnl
        omega
      · exact .inr ⟨k, by rw [h, hnl]⟩
    have q2 : (vh = none ∧ nh = p.2.den.l.length) ∨ ∃ k, vh = some (.int k (nh : Int)) := by
      rcases bndX_rp h3 hh with ⟨_, h, rfl⟩ | ⟨k, h⟩
      · refine .inl ⟨h, ?_⟩
        have hnh : (p.2.den.l.length : Int) = nh := hnh
        omega
      · exact .inr ⟨k, by rw [h, hnh]⟩
    obtain ⟨a, c, rfl, hc, hcl⟩ := lst_cells (xl_rp h1 hx)
    have hb := run_bnd (P := P) (w := w) (s := true) (cap := c) q1 q2 (by omega) (by omega) hc
    have hden : (Xp.subl p.2 l hx2).den.l = (p.2.den.l.take nh).drop nl := by
      show (p.2.den.l.take hx2.den.i.toNat).drop l.den.i.toNat = _
      rw [hnl, hnh]; rfl
    have hlen : (Xp.subl p.2 l hx2).den.l.length = nh - nl := by rw [hden]; simp; omega
    have hrun : (Instr.sliceAt t (.slice a p.2.den.l.length c) vl vh none).run P w = .ok (.slice (if c = nl then a else a.map (·.add (nl * k))) (nh - nl) (c - nl)) w := by
      rw [sliceAt_other (fun n e hh => by rw [hd] at hh; cases hh) hd]
      simp [Instr.slice, run_underlying hd, hb, run_szO hk]
    refine ⟨_, hrun, ?_⟩
    rw [← e]
    simp only [AV.rp, Sh.rp]
    refine ⟨_, _, by rw [hlen], by rw [hlen]; omega, ?_⟩
    by_cases h0 : (Xp.subl p.2 l hx2).den.l = []
    · exact .inl h0
    · right
      have hpos : 0 < nh - nl := by rw [← hlen]; exact List.length_pos_iff.2 h0
      rcases hcl with hcl | ⟨b, o, rfl, hcl⟩
      · rw [hcl] at p3; simp at p3; omega
      · refine ⟨b, o + nl * k, ?_, fun i x hi => ?_⟩
        · rw [if_neg (by omega)]
          simp [addr_add]
        · rw [hden, List.getElem?_drop] at hi
          have hi2 : nl + i < nh := by
            rw [List.getElem?_take] at hi
            by_cases h : nl + i < nh
            · exact h
            · rw [if_neg h] at hi; cases hi
          rw [List.getElem?_take, if_pos hi2] at hi
          have := hcl (nl + i) x hi
          rw [← h5]
          have e9 : ∀ j, o + nl * p.1.length + i * p.1.length + j = o + (nl + i) * p.1.length + j := fun j => by rw [Nat.add_mul]; omega
          simpa only [e9] using this
  | _ => cases e
theorem symLoad_snd (hr : Rep B ρ h w) {t : TypeId} {l : List AV} {z : AV} (e : symLoad P t l = .val z) {v : Value} (hx : (AV.fp l).rp ρ v) : ∃ u, (Instr.loadAt t v).run P w = .ok u w ∧ z.rp ρ u := by
  obtain ⟨ag, h1, e⟩ := optT_val e
  have hrun := run_isAggB h1
  simp only [AV.rp] at hx
  obtain ⟨b, o, us, rfl, hu, hc⟩ := hx
  cases ag with
  | false =>
    obtain ⟨x, h2, e⟩ := optT_val e
    injection e with e
    subst e
    rw [nthL_eq] at h2
    obtain ⟨u, h3, h4⟩ := (rps_at.1 hu).2 0 x h2
    have h5 := hr.frz _ _ _ (hc 0 u h3)
    refine ⟨u, ?_, h4⟩
    simp [Instr.loadAt, Instr.sureAddr, loadVar, hrun, load, Sem.run]
    rw [show o = o + 0 from rfl, h5]
  | true =>
    obtain ⟨k, h2, e⟩ := optT_val e
    obtain ⟨h3, e⟩ := iffT_val e
    injection e with e
    subst e
    rw [Nat.ble_eq, lenL_eq] at h3
    have hul := rps_length hu
    have hcell : ∀ j, j < k → w.cell? ⟨b, o + j, none⟩ = us[j]? := fun j hj => by
      have : us[j]? = some us[j] := List.getElem?_eq_getElem (by omega)
      rw [this]
      exact hr.frz _ _ _ (hc j _ this)
    have hl := run_loadCells (P := P) w ⟨b, o, none⟩ k (fun j => (us[j]?).getD undef) (fun j hj => by
      rw [addr_add, hcell j hj, List.getElem?_eq_getElem (by omega)]; rfl)
    have e9 : ((List.range k).map fun j => (us[j]?).getD undef) = us.take k := by
      apply List.ext_getElem?
      intro i
      rw [List.getElem?_map]
      by_cases hi : i < k
      · rw [List.getElem?_range hi, List.getElem?_take, if_pos hi, List.getElem?_eq_getElem (show i < us.length by omega)]
        show some ((us[i]?).getD undef) = _
        rw [List.getElem?_eq_getElem (show i < us.length by omega)]; rfl
      · rw [List.getElem?_eq_none (by simpa using hi), List.getElem?_take, if_neg hi]; rfl
    rw [e9] at hl
    refine ⟨.agg (us.take k).toArray, by simp [Instr.loadAt, Instr.sureAddr, loadVar, hrun, run_szO h2, hl], ?_⟩
    simp only [AV.rp]
    exact ⟨_, rfl, by rw [takeL_eq]; simpa using rps_take hu k⟩
theorem symFld_snd {t : TypeId} {l : List AV} {f : Nat} {z : AV} (e : symFld P t l f = .val z) {v : Value} (hx : (AV.fp l).rp ρ v) : ∃ u, (Instr.fieldAt t v f).run P w = .ok u w ∧ z.rp ρ u := by
  obtain ⟨fs, h1, e⟩ := optT_val e
  obtain ⟨fd, h2, e⟩ := optT_val e
  obtain ⟨k, h3, e⟩ := optT_val e
  obtain ⟨h4, e⟩ := iffT_val e
  injection e with e
  subst e
  have hk : k ≠ 0 := fun hk => by rw [hk] at h4; cases h4
  obtain ⟨b, o, rfl, h5⟩ := fp_drop hx fd.offset
  refine ⟨_, ?_, h5⟩
  simp [Instr.fieldAt, run_underlying (flds_some h1), h2, Instr.sureAddr, fieldPlace, run_szO h3, hk, addr_add]
theorem symTab_snd : TabSnd P B ρ0 (symTab P) := by
  intro o args x e ρ h act w hle hr hv
  obtain ⟨dst, op, type, pos, after, guard⟩ := o
  have e : symTab P op args = .val x := e
  cases op with
  | binOp op2 t a b t2 =>
    obtain ⟨y, z, rfl, hy, hz⟩ := rps_r2 hv
    obtain ⟨r, m1, m2⟩ := symBin_snd (P := P) (w := w) (show symBin P op2 t y z = .val x from e) hy hz a b
    exact tab_here hr rfl m1 m2
  | convert s d a =>
    obtain ⟨y, rfl, hy⟩ := rps_r1 hv
    obtain ⟨r, w', m1, m2, m3⟩ := symConv_snd hr (show symConv P s d y = .val x from e) hy
    exact ⟨r, w', val_run m1, m2, m3⟩
  | call cl =>
    obtain ⟨callee, cargs, cts⟩ := cl
    cases callee with
    | builtin b =>
      have hv : AV.rps ρ args (cargs.map act.eval).toList := by simpa [Op.operands, Call.operands] using hv
      obtain ⟨s, r, m0, m1, m2⟩ := symBlt_snd (ty := type) (cs := cargs.map fun | .const _ => true | _ => false) hr (show symBlt P b cts args = .val x from e) hv
      refine tab_here hr (s := s) ?_ m1 m2
      show ((resolve act.eval ⟨.builtin b, cargs, cts⟩ type) >>= fun d => invoke d.target d.args) = _
      exact m0
    | _ => cases e
  | indexAddr t a b =>
    obtain ⟨y, z, rfl, hy, hz⟩ := rps_r2 hv
    obtain ⟨r, m1, m2⟩ := symIdxA_snd (P := P) (w := w) (show symIdxA P t y z = .val x from e) hy hz
    exact tab_here hr rfl m1 m2
  | index t a b =>
    obtain ⟨y, z, rfl, hy, hz⟩ := rps_r2 hv
    obtain ⟨r, m1, m2⟩ := symIdx_snd (P := P) (w := w) (show symIdx P t y z = .val x from e) hy hz
    exact tab_here hr rfl m1 m2
  | slice t a lo hi mx =>
    cases args with
    | nil => cases mx <;> cases e
    | cons y l =>
      cases mx with
      | some _ => cases e
      | none =>
        have hv : AV.rps ρ (y :: l) (act.eval a :: ((lo.toArray.toList.map act.eval) ++ ((hi.toArray.toList.map act.eval) ++ []))) := by
          simpa [Op.operands] using hv
        rw [rps_cons] at hv
        obtain ⟨v, m, h1, hy, hl⟩ := hv
        injection h1 with h1 h2
        subst h1 h2
        obtain ⟨s, h3, e⟩ := optT_val (show optT ((takeO lo.isSome l).bind fun p => (takeO hi.isSome p.2).map fun q => (p.1, q.1)) (fun s => symSl P t y s.1 s.2) = .val x from e)
        obtain ⟨p, h4, h3⟩ := bind_some' h3
        obtain ⟨q, h5, h3⟩ := Option.map_eq_some_iff.1 h3
        subst h3
        obtain ⟨k1, k2⟩ := takeO_snd h4 hl
        obtain ⟨k3, k4⟩ := takeO_snd h5 k2
        obtain ⟨r, m1, m2⟩ := symSl_snd (P := P) (w := w) e hy k1 k3
        exact tab_here hr rfl m1 m2
  | load t a =>
    obtain ⟨y, rfl, hy⟩ := rps_r1 hv
    cases y with
    | fp l =>
      obtain ⟨r, m1, m2⟩ := symLoad_snd (P := P) hr (show symLoad P t l = .val x from e) hy
      exact tab_here hr rfl m1 m2
    | _ => cases e
  | fieldAddr t a f =>
    obtain ⟨y, rfl, hy⟩ := rps_r1 hv
    cases y with
    | fp l =>
      obtain ⟨r, m1, m2⟩ := symFld_snd (P := P) (w := w) (show symFld P t l f = .val x from e) hy
      exact tab_here hr rfl m1 m2
    | _ => cases e
  | nilCheck a =>
    obtain ⟨y, rfl, hy⟩ := rps_r1 hv
    cases y with
    | fp l =>
      injection (show Tb.val (AV.fp l) = .val x from e) with e
      subst e
      have hy0 := hy
      simp only [AV.rp] at hy
      obtain ⟨b, o, us, hva, _⟩ := hy
      exact ⟨_, w, by simp [execOp, hva], hva ▸ hy0.mono (hr.frozen (Below.refl _ _)).1, Below.refl _ _⟩
    | _ => cases e
  | unOp op2 t a =>
    obtain ⟨y, rfl, hy⟩ := rps_r1 hv
    cases y with
    | sx s c =>
      cases s with
      | bool =>
        cases op2 <;> cases e
      | int k =>
        cases op2 with
        | neg =>
          injection (show Tb.val (AV.sx (.int k) (.bin .sub k (.int 0) c)) = .val x from e) with e
          subst e
          simp only [AV.rp, Sh.rp] at hy
          exact ⟨.int k (k.wrap (0 - c.den.i)), w, by simp [execOp, hy, Op.unary, Op.intArith], by simp only [AV.rp, Sh.rp]; rfl, Below.refl _ _⟩
        | _ => cases e
      | _ => cases op2 <;> cases e
    | _ => cases op2 <;> cases e
  | pick a b c =>
    obtain ⟨q, y, z, rfl, hq, hy, hz⟩ := rps_r3 hv
    cases q with
    | sx s c => cases s <;> cases e
    | _ => cases e
  | _ => first | cases e | (cases args <;> cases e)
end
end Go.Proofs.YtdkgckgpdogimaaGreatDoor

