/- EyL · EyM: joined by a program, for a claim has at most 60 files. -/
import Derived.Test.YtdflkikhmngfiaaDoorC05
import Derived.Test.YtdflkikhmngfiaaDoorC06
import Derived.Scope
import Derived.Lib.ConvBytes
import Derived.Laws.BytesString
/- Code that the machine runs, in the program. -/
namespace Go.Proofs.YtdflkikhmngfiaaDoor
open Go.RowKit
set_option linter.unusedVariables false
set_option linter.unusedSimpArgs false
set_option linter.unusedSectionVars false
variable [Sy] [Dc] [DcOK]

/-- What an operation of the machine does, the program's does. -/
def OpSnd (P : Program) (B : Nat) (ρ0 : Pm) (f : Oper → List AV → M AV) : Prop := ∀ (o : Oper) args lo h c lg x h' c' lg', f o args lo h c lg = .ok x h' c' lg' → ∀ (ρ : Pm) (act : Act) (w : World) (K : Act → World → Prop) (Q : Exit → Act → World → Prop), ρ0.le ρ → Rep B ρ h w →
  AV.rps ρ args (o.op.operands.toList.map act.eval) → (∀ ρ' v w', ρ.le ρ' → x.rp ρ' v → Rep B ρ' h' w' → Below B w w' → K (act.put o.dst v) w') → o.wp P act w K Q
/-- What a call comes to: a function's run, or a value at once. -/
def CallRes (P : Program) (B : Nat) (f : FuncId) (vs : Array Value) (ρ : Pm) (w : World) (x : AV) (h' : Heap) : Prop :=
  ((callFunc f vs).run P w = .ok (.enter f vs) w ∧ Calls P f vs w fun e w' => ∃ ρ' v, e = .returned v ∧ ρ.le ρ' ∧ x.rp ρ' v ∧ Rep B ρ' h' w' ∧ Below B w w') ∨
  ∃ ρ' v w', (callFunc f vs).run P w = .ok (.value v) w' ∧ ρ.le ρ' ∧ x.rp ρ' v ∧ Rep B ρ' h' w' ∧ Below B w w'
def CallSnd (P : Program) (B : Nat) (ρ0 : Pm) (call : FuncId → List AV → M AV) : Prop := ∀ f args lo h c lg x h' c' lg', call f args lo h c lg = .ok x h' c' lg' → ∀ (ρ : Pm) (w : World) (vs : Array Value), ρ0.le ρ → Rep B ρ h w → AV.rps ρ args vs.toList →
  CallRes P B f vs ρ w x h'
/-- The program's variables, as the machine sees them. -/
def GlobOK (G : Nat → Option AV) (ρ0 : Pm) : Prop := ∀ g x, G g = some x → x.rp ρ0 (.pointer (some ⟨g, 0, none⟩))
theorem evl_rp {D : List Deferred} {G : Nat → Option AV} {ρ0 ρ : Pm} (hG : GlobOK G ρ0) (hle : ρ0.le ρ) {N : Nat} {a : Tr AV} {act : Act} (hf : Frm D ρ N a act) {o : Operand} {x : AV} (e : evl G a o = some x) : x.rp ρ (act.eval o) := by
  cases o with
  | tmp t =>
    have e : nrmO (a.get t) = some x := e
    cases hx : a.get t with
    | none => rw [hx] at e; cases e
    | some y =>
      rw [hx] at e
      injection e with e
      obtain ⟨v, h1, h2⟩ := hf.slot t y hx
      show x.rp ρ (act.tmps.getD t undef)
      rw [Array.getD_eq_getD_getElem?, h1, ← e]
      exact nrm_rp h2
  | const v => exact ofV_rp e
  | global g => exact (hG g x e).mono hle
  | func f =>
    injection e with e
    subst e
    simp only [AV.rp]
    exact ⟨#[], #[], rfl, rps_nil.2 rfl, rps_nil.2 rfl⟩
theorem evls_rp {D : List Deferred} {G : Nat → Option AV} {ρ0 ρ : Pm} (hG : GlobOK G ρ0) (hle : ρ0.le ρ) {N : Nat} {a : Tr AV} {act : Act} (hf : Frm D ρ N a act) : ∀ {l : List Operand} {m : List AV}, evls G a l = some m → AV.rps ρ m (l.map act.eval)
  | [], m, e => by
    have e : some [] = some m := e
    injection e with e
    subst e
    exact rps_nil.2 rfl
  | o :: l, m, e => by
    obtain ⟨x, m', rfl, h1, h2⟩ := evls_cons e
    exact rps_cons.2 ⟨_, _, rfl, evl_rp hG hle hf h1, evls_rp hG hle hf h2⟩
def wantsB (ops : Array Oper) (tmps : Array Value) (g : Option (Nat × Bool)) : Bool := match g with | none => true | some (j, want) => yielded ops tmps j == some want
theorem yielded_get {D : List Deferred} {ops : Array Oper} {ρ : Pm} {N : Nat} {a : Tr AV} {act : Act} (hf : Frm D ρ N a act) {g : Option (Nat × Bool)} {b : Bool} (e : wntd ops a g = some b) :
    wantsB ops act.tmps g = b := by
  unfold wantsB
  unfold wntd at e
  cases g with
  | none =>
    have e : some true = some b := e
    injection e
  | some p =>
    obtain ⟨j, wt⟩ := p
    dsimp only at e ⊢
    unfold yielded
    cases ht : (ops[j]?).bind (·.dst) with
    | none =>
      rw [ht] at e
      have e : some false = some b := e
      exact Option.some.inj e
    | some t =>
      rw [ht] at e
      dsimp only at e
      cases hx : a.get t with
      | none => rw [hx] at e; cases e
      | some x =>
        rw [hx] at e
        have e : boolOf (nrm x) wt = some b := e
        obtain ⟨v, h1, h2⟩ := hf.slot t x hx
        have h2 := nrm_rp h2
        generalize nrm x = x at e h2
        show ((match (some t).bind (fun t => act.tmps[t]?) with | some (.bool b) => some b | _ => none) == some wt) = b
        rw [Option.bind_some, h1]
        unfold boolOf at e
        cases x with
        | bool c =>
          simp only [AV.rp] at h2
          subst h2
          injection e with e
          subst e
          cases c <;> cases wt <;> rfl
        | sx _ _ => cases e
        | _ =>
          injection e with e
          subst e
          have hv : ∀ c, v ≠ .bool c := fun c hc => by
            subst hc
            simp only [AV.rp] at h2
            first
              | (simp only [Sh.rp] at h2; obtain ⟨⟨_, _, h2, _⟩, _⟩ := h2; exact Value.noConfusion h2)
              | (obtain ⟨_, _, _, _, _, ⟨_, h2⟩ | ⟨_, _, h2⟩⟩ := h2 <;> exact Value.noConfusion h2)
              | exact Value.noConfusion h2
              | (obtain ⟨_, h2⟩ := h2; exact Value.noConfusion h2)
              | (obtain ⟨_, h2, _⟩ := h2; exact Value.noConfusion h2)
              | (obtain ⟨_, _, h2⟩ := h2; exact Value.noConfusion h2)
              | (obtain ⟨_, _, h2, _⟩ := h2; exact Value.noConfusion h2)
              | (obtain ⟨_, _, _, _, h2⟩ := h2; exact Value.noConfusion h2)
              | (obtain ⟨_, _, _, _, _, h2⟩ := h2; exact Value.noConfusion h2)
              | (obtain ⟨_, _, _, h2, _⟩ := h2; exact Value.noConfusion h2)
          cases v with
          | bool c => exact absurd rfl (hv c)
          | _ => rfl
/-- One operation, with its guard and its slot. -/
theorem OpSnd.ok {P : Program} {B : Nat} {ρ0 : Pm} {G : Nat → Option AV} {f : Oper → List AV → M AV} (hG : GlobOK G ρ0) (hf : OpSnd P B ρ0 f) {N : Nat} {ops : Array Oper} (hd : ∀ (i : Nat) (o : Oper), ops[i]? = some o → ∀ d, o.dst = some d → d < N) : OpOK P B ρ0 ⟨G, f⟩ ops N := by
  intro i o ho a lo h c lg a' h' c' lg' e D ρ act w K Q hle hr hfr hk
  unfold stp at e
  cases hw : wntd ops a o.guard with
  | none => rw [hw] at e; cases e
  | some b =>
    rw [hw, needL_some] at e
    have hy := yielded_get hfr hw
    have hwa : Region.wanted o (yielded ops act.tmps) = b := by
      rw [← hy]
      unfold Region.wanted wantsB
      cases o.guard <;> rfl
    unfold wpOp
    simp only [ho]
    cases b with
    | false =>
      rw [hwa, if_neg (by simp)]
      have e : ret (pt a o.dst (.tup [])) lo h c lg = .ok a' h' c' lg' := e
      injection e with e1 e2 e3 e4
      subst e1 e2 e3 e4
      exact hk ρ _ w (Pm.le.refl ρ) hr (hfr.put (hd i o ho) (by simp only [AV.rp]; exact ⟨#[], rfl, rps_nil.2 rfl⟩)) (Below.refl _ _)
    | true =>
      rw [hwa, if_pos rfl]
      have e : need (evls G a o.op.operands.toList) 11 (fun args => bnd (f o args) fun x => ret (pt a o.dst x)) lo h c lg = .ok a' h' c' lg' := e
      cases hx : evls G a o.op.operands.toList with
      | none => rw [hx] at e; cases e
      | some args =>
        rw [hx, need_some] at e
        obtain ⟨x, h1, c1, lg1, e1, e2⟩ := bnd_ok e
        injection e2 with f1 f2 f3 f4
        subst f1 f2 f3 f4
        refine .inl (hf o args _ _ _ _ _ _ _ _ e1 ρ act w K Q hle hr (evls_rp hG hle hfr hx) fun ρ' v w' l1 l2 l3 l4 => ?_)
        exact hk ρ' _ w' l1 l3 ((hfr.mono l1).put (hd i o ho) l2) l4
end Go.Proofs.YtdflkikhmngfiaaDoor


/- The machine's loads, stores and new blocks, in the program. -/
namespace Go.Proofs.YtdflkikhmngfiaaDoor
open Go.RowKit
set_option linter.unusedVariables false
set_option linter.unusedSimpArgs false
set_option linter.unusedSectionVars false
variable [Sy] [Dc] [DcOK]

/-- An operation that gives a value does so. -/
def VRun (P : Program) (B : Nat) (s : Sem Value) (ρ : Pm) (w : World) (x : AV) (h' : Heap) : Prop := ∃ ρ' v w', s.run P w = .ok v w' ∧ ρ.le ρ' ∧ x.rp ρ' v ∧ Rep B ρ' h' w' ∧ Below B w w'
def URun (P : Program) (B : Nat) (s : Sem Unit) (ρ : Pm) (w : World) (h' : Heap) : Prop := ∃ ρ' w', s.run P w = .ok () w' ∧ ρ.le ρ' ∧ Rep B ρ' h' w' ∧ Below B w w'
theorem VRun.here {P : Program} {B : Nat} {s : Sem Value} {ρ : Pm} {w : World} {x : AV} {h : Heap} {v : Value} (e : s.run P w = .ok v w) (hx : x.rp ρ v) (hr : Rep B ρ h w) : VRun P B s ρ w x h :=
  ⟨ρ, v, w, e, Pm.le.refl ρ, hx, hr, Below.refl _ _⟩
theorem addr_add (b o j : Nat) : (⟨b, o, none⟩ : Addr).add j = ⟨b, o + j, none⟩ := by unfold Addr.add; split <;> simp_all
theorem run_isAggB {P : Program} {t : TypeId} {b : Bool} (e : isAggB P t = some b) (w : World) : (isAgg t).run P w = .ok b w := by
  unfold isAggB at e
  cases hu : P.underlying t with
  | none => rw [hu] at e; cases e
  | some d =>
    rw [hu] at e
    cases d <;> (injection e with e; subst e; simp [isAgg, run_underlying hu])
theorem szO_some {P : Program} {t : TypeId} {k : Nat} (e : szO P t = some k) : ∃ i, P.info? t = some i ∧ i.size = k := by
  unfold szO at e
  cases hi : P.info? t with
  | none => rw [hi] at e; cases e
  | some i => rw [hi] at e; injection e with e; exact ⟨i, rfl, e⟩
theorem run_szO {P : Program} {t : TypeId} {k : Nat} (e : szO P t = some k) (w : World) : (sizeOf t).run P w = .ok k w := by
  obtain ⟨i, hi, rfl⟩ := szO_some e
  simp [sizeOf, typeInfo, hi]
theorem run_zeroO {P : Program} {t : TypeId} {x : AV} (e : zeroO P t = some x) (w : World) : ∃ z, (zeroValue t).run P w = .ok z w ∧ (∀ ρ, x.rp ρ z) ∧ (∃ i, P.info? t = some i ∧ i.zero = some z) ∧ ofV z = some x := by
  unfold zeroO at e
  cases hi : P.info? t with
  | none => rw [hi] at e; cases e
  | some i =>
    rw [hi] at e
    cases hz : i.zero with
    | none => simp [hz] at e
    | some z =>
      simp [hz] at e
      exact ⟨z, by simp [zeroValue, typeInfo, hi, hz], fun ρ => ofV_rp e, ⟨i, rfl, hz⟩, e⟩
/-- Cells that are told, loaded. -/
theorem Rep.cells {P : Program} {B : Nat} {ρ : Pm} {h : Heap} {w : World} (hr : Rep B ρ h w) {n o k : Nat} {l : List AV} (hl : l.length = k) (hc : ∀ i, i < k → cl h n (o + i) = l[i]?) {b f c : Nat} (hn : ρ n = some (b, f, c)) :
    ∃ vs : List Value, (loadCells ⟨b, f + o, none⟩ k).run P w = .ok vs.toArray w ∧ AV.rps ρ l vs ∧ vs.length = k ∧ ∀ i, i < k → w.cell? ⟨b, f + o + i, none⟩ = vs[i]? := by
  have hcell : ∀ i, i < k → ∃ x v, l[i]? = some x ∧ w.cell? ⟨b, f + o + i, none⟩ = some v ∧ x.rp ρ v := fun i hi => by
    obtain ⟨x, hx⟩ : ∃ x, l[i]? = some x := ⟨l[i], List.getElem?_eq_getElem (by omega)⟩
    obtain ⟨b', f', c', v, arr, el, fz, g1, g2, g3, g4, g5, g6, g7⟩ := hr.cell ((hc i hi).trans hx)
    rw [hn] at g1
    injection g1 with g1
    injection g1 with g1 g8
    injection g8 with g8 g9
    subst g1 g8 g9
    exact ⟨x, v, hx, by rw [Nat.add_assoc]; exact g5, g6⟩
  refine ⟨(List.range k).map fun j => (w.cell? ((⟨b, f + o, none⟩ : Addr).add j)).getD undef, ?_, ?_, by simp, fun i hi => ?_⟩
  · exact run_loadCells w _ k _ (fun j hj => by
      obtain ⟨x, v, h1, h2, h3⟩ := hcell j hj
      rw [addr_add, h2]
      rfl)
  · refine rps_at.2 ⟨by simp [hl], fun i x hx => ?_⟩
    have hi : i < k := by have := (List.getElem?_eq_some_iff.1 hx).1; omega
    obtain ⟨x', v, h1, h2, h3⟩ := hcell i hi
    rw [hx] at h1
    injection h1 with h1
    subst h1
    refine ⟨v, ?_, h3⟩
    rw [List.getElem?_map, List.getElem?_range hi]
    show some ((w.cell? ((⟨b, f + o, none⟩ : Addr).add i)).getD undef) = _
    rw [addr_add, h2]
    rfl
  · obtain ⟨x', v, h1, h2, h3⟩ := hcell i hi
    rw [List.getElem?_map, List.getElem?_range hi]
    show _ = some ((w.cell? ((⟨b, f + o, none⟩ : Addr).add i)).getD undef)
    rw [addr_add, h2]
    rfl
theorem need_ok {α β : Type} {o : Option α} {why : Nat} {g : α → M β} {lo : Nat} {h : Heap} {c : Nat} {lg : List Ev} {x : β} {h' : Heap} {c' : Nat} {lg' : List Ev} (e : need o why g lo h c lg = .ok x h' c' lg') : ∃ a, o = some a ∧ g a lo h c lg = .ok x h' c' lg' := by
  cases o with
  | none => cases e
  | some a => exact ⟨a, rfl, e⟩
theorem ret_ok {α : Type} {a x : α} {lo : Nat} {h : Heap} {c : Nat} {lg : List Ev} {h' : Heap} {c' : Nat} {lg' : List Ev} (e : ret a lo h c lg = .ok x h' c' lg') : x = a ∧ h' = h ∧ c' = c ∧ lg' = lg := by
  injection e with e1 e2 e3 e4
  exact ⟨e1.symm, e2.symm, e3.symm, e4.symm⟩
section
variable {P : Program} {B : Nat} {lo : Nat} {h : Heap} {c : Nat} {lg : List Ev} {h' : Heap} {c' : Nat} {lg' : List Ev} {ρ : Pm} {w : World}
theorem loadVar_snd {t : TypeId} {n o : Nat} {y : AV} (e : loadM P t (.ptr n o) lo h c lg = .ok y h' c' lg') (hr : Rep B ρ h w) {b f cc : Nat} (hn : ρ n = some (b, f, cc)) : h' = h ∧ ∃ v, (loadVar t ⟨b, f + o, none⟩).run P w = .ok v w ∧ y.rp ρ v := by
  obtain ⟨ag, hag, e⟩ := need_ok (show need (isAggB P t) 21 (fun b => Bool.rec (motive := fun _ => M AV) (rdC n o) (need (szO P t) 22 fun k => bnd (rdCs n k o) fun l => ret (.agg l)) b) lo h c lg = .ok y h' c' lg' from e)
  have hrun := run_isAggB hag
  cases ag with
  | false =>
    obtain ⟨rfl, _, hc⟩ := rdC_ok e
    obtain ⟨b', f', c2, v, arr, el, fz, g1, g2, g3, g4, g5, g6, g7⟩ := hr.cell hc
    rw [hn] at g1
    injection g1 with g1
    injection g1 with g1 g8
    injection g8 with g8 g9
    subst g1 g8 g9
    refine ⟨rfl, v, ?_, g6⟩
    simp [loadVar, hrun, load, Sem.run, g5]
  | true =>
    obtain ⟨k, hk, e⟩ := need_ok e
    obtain ⟨l, h1, c1, lg1, e1, e2⟩ := bnd_ok e
    obtain ⟨rfl, rfl, rfl, rfl⟩ := ret_ok e2
    obtain ⟨rfl, _, g3, g4⟩ := rdCs_ok e1
    obtain ⟨vs, k1, k2, k3, _⟩ := hr.cells (P := P) g3 g4 hn
    refine ⟨rfl, .agg vs.toArray, ?_, by simp only [AV.rp]; exact ⟨vs.toArray, rfl, by simpa using k2⟩⟩
    simp [loadVar, hrun, run_szO hk, k1]
theorem load_snd {t : TypeId} {x y : AV} {v : Value} (e : loadM P t x lo h c lg = .ok y h' c' lg') (hr : Rep B ρ h w) (hx : x.rp ρ v) : VRun P B (Instr.loadAt t v) ρ w y h' := by
  cases x with
  | ptr n o =>
    simp only [AV.rp] at hx
    obtain ⟨b, f, cc, hn, rfl⟩ := hx
    obtain ⟨rfl, v, k1, k2⟩ := loadVar_snd e hr hn
    exact VRun.here (by simp [Instr.loadAt, Instr.sureAddr, k1]) k2 hr
  | _ => cases e
/-- Cells, written one behind the other. -/
theorem stores_snd {n b f cc : Nat} (hn : ρ n = some (b, f, cc)) : ∀ {l : List AV} {vs : List Value} {o i : Nat} {u : Unit} {h : Heap} {c : Nat} {lg : List Ev} {h' : Heap} {c' : Nat} {lg' : List Ev} {w : World}, wrCs n l (o + i) lo h c lg = .ok u h' c' lg' → AV.rps ρ l vs → Rep B ρ h w →
    ∃ w', (storeCells ⟨b, f + o, none⟩ vs i).run P w = .ok () w' ∧ Rep B ρ h' w' ∧ Below B w w' ∧ (∀ m, mt h' m = mt h m)
  | [], vs, o, i, u, h, c, lg, h', c', lg', w, e, hv, hr => by
    rw [rps_nil] at hv
    subst hv
    obtain ⟨_, rfl, _, _⟩ := ret_ok (show ret () lo h c lg = .ok u h' c' lg' from e)
    exact ⟨w, rfl, hr, Below.refl _ _, fun _ => rfl⟩
  | x :: l, vs, o, i, u, h, c, lg, h', c', lg', w, e, hv, hr => by
    rw [rps_cons] at hv
    obtain ⟨y, m, rfl, hx, hl⟩ := hv
    obtain ⟨ho, e⟩ := want_ok (show want x.one 20 (bnd (wrC n (o + i) x) fun _ => wrCs n l (Nat.succ (o + i))) lo h c lg = .ok u h' c' lg' from e)
    obtain ⟨_, h1, c1, lg1, e1, e2⟩ := bnd_ok e
    obtain ⟨_, ⟨z, hz⟩, hm, hc⟩ := wrC_ok e1
    obtain ⟨b', f', c2, v0, arr, el, fz, g1, g2, g3, g4, g5, g6, g7⟩ := hr.cell hz
    have g1' := g1
    rw [hn] at g1
    injection g1 with g1
    injection g1 with g1 g8
    injection g8 with g8 g9
    subst g1 g8 g9
    obtain ⟨hr1, hb1⟩ := hr.write hz hm hc hn hx
    obtain ⟨w', k1, k2, k3, k4⟩ := stores_snd hn (o := o) (i := i + 1) (show wrCs n l (o + (i + 1)) lo h1 c1 lg1 = .ok u h' c' lg' from e2) hl hr1
    refine ⟨w', ?_, k2, hb1.trans k3, fun m => (k4 m).trans (hm m)⟩
    obtain ⟨q1, q2⟩ := rp_one hx ho
    have hst : (store ((⟨b, f + o, none⟩ : Addr).add i) y).run P w = .ok () (w.setCell ⟨b, f + (o + i), none⟩ y) := by
      rw [addr_add, Nat.add_assoc]
      unfold store
      cases y with
      | agg a => exact absurd rfl (q1 a)
      | tuple a => exact absurd rfl (q2 a)
      | _ => simp [Sem.run, g5, g7]
    show ((store ((⟨b, f + o, none⟩ : Addr).add i) y) >>= fun _ => storeCells ⟨b, f + o, none⟩ m (i + 1)).run P w = _
    rw [Sem.run_bind, hst]
    exact k1
theorem store_snd {t : TypeId} {x y z : AV} {v u : Value} (e : storeM P t x y lo h c lg = .ok z h' c' lg') (hr : Rep B ρ h w) (hx : x.rp ρ v) (hy : y.rp ρ u) : z = .tup [] ∧ URun P B (Instr.storeAt t v u) ρ w h' := by
  cases x with
  | ptr n o =>
    simp only [AV.rp] at hx
    obtain ⟨b, f, cc, hn, rfl⟩ := hx
    obtain ⟨k, hk, e⟩ := need_ok (show need (szO P t) 24 (fun k => want (Nat.beq (lenL y.cells) k) 25 (bnd (wrCs n y.cells o) fun _ => ret (.tup []))) lo h c lg = .ok z h' c' lg' from e)
    obtain ⟨hkl, e⟩ := want_ok e
    obtain ⟨uu, h1, c1, lg1, e1, e2⟩ := bnd_ok e
    obtain ⟨rfl, rfl, rfl, rfl⟩ := ret_ok e2
    have hlen : y.cells.length = k := by rw [← lenL_eq]; exact Nat.eq_of_beq_eq_true hkl
    have ht : ∀ l, y ≠ .tup l := fun l hl => by
      subst hl
      obtain ⟨ho, _⟩ := want_ok (show want (AV.tup l).one 20 (bnd (wrC n o (.tup l)) fun _ => wrCs n [] (Nat.succ o)) lo h c lg = .ok uu _ _ _ from e1)
      cases ho
    have hcs := rp_cells hy ht
    obtain ⟨w', k1, k2, k3, _⟩ := stores_snd (P := P) hn (o := o) (i := 0) e1 hcs hr
    refine ⟨rfl, ρ, w', ?_, Pm.le.refl ρ, k2, k3⟩
    have hsz : u.cells.size = k := by
      have := rps_length hcs
      simp at this
      omega
    simp [Instr.storeAt, Instr.sureAddr, storeVar, run_szO hk, hsz]
    exact k1
  | _ => cases e
/-- A new row. -/
theorem newRow_snd {el : TypeId} {z : Nat} {l : List AV} {n : Nat} (e : newRowM el z l false lo h c lg = .ok n h' c' lg') (hr : Rep B ρ h w) {arr : Array Value} (hl : AV.rps ρ l arr.toList) (cc : Nat) :
    ∃ ρ', ρ.le ρ' ∧ ρ' n = some (w.heap.size, 0, cc) ∧ Rep B ρ' h' (w.alloc (.cells arr el)) ∧ Below B w (w.alloc (.cells arr el)) := by
  obtain ⟨h0, rfl, rfl, _, _⟩ := new_ok e
  refine hr.new h0 rfl fun ρ' hle => ?_
  refine ⟨arr, (0, 0), rfl, .inl rfl, fun i x hx => ?_, fun ho => by cases ho⟩
  have hx : (Tr.ofList l).get i = some x := hx
  rw [Tr.get_ofList] at hx
  obtain ⟨v, h1, h2⟩ := (rps_at.1 hl).2 i x hx
  exact ⟨v, by rw [Nat.zero_add]; simpa using h1, h2.mono hle⟩
theorem box_snd {t : TypeId} {x y : AV} {v : Value} (e : boxM t x lo h c lg = .ok y h' c' lg') (hr : Rep B ρ h w) (hx : x.rp ρ v) : VRun P B (do pure (.pointer (some (← newVar t v)))) ρ w y h' := by
  obtain ⟨ho, e⟩ := want_ok (show want (x.cells.all AV.one) 27 (bnd (newRowM t 1 x.cells false) fun n => ret (.ptr n 0)) lo h c lg = .ok y h' c' lg' from e)
  obtain ⟨n, h1, c1, lg1, e1, e2⟩ := bnd_ok e
  obtain ⟨rfl, rfl, rfl, rfl⟩ := ret_ok e2
  have ht : ∀ l, x ≠ .tup l := fun l hl => by
    subst hl
    cases ho
  obtain ⟨ρ', k1, k2, k3, k4⟩ := newRow_snd e1 hr (rp_cells hx ht) 0
  refine ⟨ρ', .pointer (some ⟨w.heap.size, 0, none⟩), w.alloc (.cells v.cells t), ?_, k1, ?_, k3, k4⟩
  · simp [newVar, newRow]
  · simp only [AV.rp]
    exact ⟨_, _, _, k2, rfl⟩
end
end Go.Proofs.YtdflkikhmngfiaaDoor

