/- EyL · EyM · EyN · EyO: joined by a program, for a claim has at most 60 files. -/
import Derived.Test.YtdflkikhmngfiaaGreatDoorZ05
import Derived.Test.YtdflkikhmngfiaaGreatDoorZ06
import Derived.Scope
import Derived.Lib.ConvBytes
import Derived.Laws.BytesString
import Derived.WideShapes
import Derived.Laws.Strings
import Derived.Laws.Tables
import Derived.Great.BuildSlice
/- Code that the machine runs, in the program. -/
namespace Go.Proofs.YtdflkikhmngfiaaGreatDoor
open Go.RowKit
set_option linter.unusedVariables false
set_option linter.unusedSimpArgs false
set_option linter.unusedSectionVars false
variable [Sy] [Dc] [DcOK]

/-- What an operation of the machine does, the program's does. -/
def OpSnd (P : Program) (B : Nat) (ρ0 : Pm) (f : Oper → List AV → M AV) : Prop := ∀ (o : Oper) args lo h c lg x h' c' lg', f o args lo h c lg = .ok x h' c' lg' → ∀ (ρ : Pm) (act : Act) (w : World) (K : Act → World → Prop) (Q : Exit → Act → World → Prop), ρ0.le ρ → Rep B ρ h w →
  AV.rps ρ args (o.op.operands.toList.map act.eval) → (∀ ρ' v w', ρ.le ρ' → x.rp ρ' v → Rep B ρ' h' w' → Below B w w' → K (act.put o.dst v) w') → o.wp P act w K Q
/-- What a call comes to: a function's run, or a value at once. -/
def CallRes (P : Program) (B : Nat) (f : FuncId) (vs : Array Value) (ρ : Pm) (w : World) (x : AV) (h' : Heap) : Prop :=
  ((callFunc f vs).run P w = .ok (.enter f vs) w ∧ Calls P f vs w fun e w' => ∃ ρ' v, e = .returned v ∧ ρ.le ρ' ∧ x.rp ρ' v ∧ Rep B ρ' h' w' ∧ Below B w w') ∨
  ∃ ρ' v w', (callFunc f vs).run P w = .ok (.value v) w' ∧ ρ.le ρ' ∧ x.rp ρ' v ∧ Rep B ρ' h' w' ∧ Below B w w'
def CallSnd (P : Program) (B : Nat) (ρ0 : Pm) (call : FuncId → List AV → M AV) : Prop := ∀ f args lo h c lg x h' c' lg', call f args lo h c lg = .ok x h' c' lg' → ∀ (ρ : Pm) (w : World) (vs : Array Value), ρ0.le ρ → Rep B ρ h w → AV.rps ρ args vs.toList →
  CallRes P B f vs ρ w x h'
/-- The program's variables, as the machine sees them. -/
def GlobOK (G : Nat → Option AV) (ρ0 : Pm) : Prop := ∀ g x, G g = some x → x.rp ρ0 (.pointer (some ⟨g, 0, none⟩))
theorem evl_rp {D : List Deferred} {G : Nat → Option AV} {ρ0 ρ : Pm} (hG : GlobOK G ρ0) (hle : ρ0.le ρ) {N : Nat} {a : Tr AV} {act : Act} (hf : Frm D ρ N a act) {o : Operand} {x : AV} (e : evl G a o = some x) : x.rp ρ (act.eval o) := by
  cases o with
  | tmp t =>
    have e : nrmO (a.get t) = some x := e
    cases hx : a.get t with
    | none => rw [hx] at e; cases e
    | some y =>
      rw [hx] at e
      injection e with e
      obtain ⟨v, h1, h2⟩ := hf.slot t y hx
      show x.rp ρ (act.tmps.getD t undef)
      rw [Array.getD_eq_getD_getElem?, h1, ← e]
      exact nrm_rp h2
  | const v => exact ofV_rp e
  | global g => exact (hG g x e).mono hle
  | func f =>
    injection e with e
    subst e
    simp only [AV.rp]
    exact ⟨#[], #[], rfl, rps_nil.2 rfl, rps_nil.2 rfl⟩
theorem evls_rp {D : List Deferred} {G : Nat → Option AV} {ρ0 ρ : Pm} (hG : GlobOK G ρ0) (hle : ρ0.le ρ) {N : Nat} {a : Tr AV} {act : Act} (hf : Frm D ρ N a act) : ∀ {l : List Operand} {m : List AV}, evls G a l = some m → AV.rps ρ m (l.map act.eval)
  | [], m, e => by
    have e : some [] = some m := e
    injection e with e
    subst e
    exact rps_nil.2 rfl
  | o :: l, m, e => by
    obtain ⟨x, m', rfl, h1, h2⟩ := evls_cons e
    exact rps_cons.2 ⟨_, _, rfl, evl_rp hG hle hf h1, evls_rp hG hle hf h2⟩
def wantsB (ops : Array Oper) (tmps : Array Value) (g : Option (Nat × Bool)) : Bool := match g with | none => true | some (j, want) => yielded ops tmps j == some want
theorem yielded_get {D : List Deferred} {ops : Array Oper} {ρ : Pm} {N : Nat} {a : Tr AV} {act : Act} (hf : Frm D ρ N a act) {g : Option (Nat × Bool)} {b : Bool} (e : wntd ops a g = some b) :
    wantsB ops act.tmps g = b := by
  unfold wantsB
  unfold wntd at e
  cases g with
  | none =>
    have e : some true = some b := e
    injection e
  | some p =>
    obtain ⟨j, wt⟩ := p
    dsimp only at e ⊢
    unfold yielded
    cases ht : (ops[j]?).bind (·.dst) with
    | none =>
      rw [ht] at e
      have e : some false = some b := e
      exact Option.some.inj e
    | some t =>
      rw [ht] at e
      dsimp only at e
      cases hx : a.get t with
      | none => rw [hx] at e; cases e
      | some x =>
        rw [hx] at e
        have e : boolOf (nrm x) wt = some b := e
        obtain ⟨v, h1, h2⟩ := hf.slot t x hx
        have h2 := nrm_rp h2
        generalize nrm x = x at e h2
        show ((match (some t).bind (fun t => act.tmps[t]?) with | some (.bool b) => some b | _ => none) == some wt) = b
        rw [Option.bind_some, h1]
        unfold boolOf at e
        cases x with
        | bool c =>
          simp only [AV.rp] at h2
          subst h2
          injection e with e
          subst e
          cases c <;> cases wt <;> rfl
        | sx _ _ => cases e
        | _ =>
          injection e with e
          subst e
          have hv : ∀ c, v ≠ .bool c := fun c hc => by
            subst hc
            simp only [AV.rp] at h2
            first
              | (simp only [Sh.rp] at h2; obtain ⟨⟨_, _, h2, _⟩, _⟩ := h2; exact Value.noConfusion h2)
              | (obtain ⟨_, _, _, _, _, ⟨_, h2⟩ | ⟨_, _, h2⟩⟩ := h2 <;> exact Value.noConfusion h2)
              | exact Value.noConfusion h2
              | (obtain ⟨_, h2⟩ := h2; exact Value.noConfusion h2)
              | (obtain ⟨_, h2, _⟩ := h2; exact Value.noConfusion h2)
              | (obtain ⟨_, _, h2⟩ := h2; exact Value.noConfusion h2)
              | (obtain ⟨_, _, h2, _⟩ := h2; exact Value.noConfusion h2)
              | (obtain ⟨_, _, _, _, h2⟩ := h2; exact Value.noConfusion h2)
              | (obtain ⟨_, _, _, _, _, h2⟩ := h2; exact Value.noConfusion h2)
              | (obtain ⟨_, _, _, h2, _⟩ := h2; exact Value.noConfusion h2)
          cases v with
          | bool c => exact absurd rfl (hv c)
          | _ => rfl
/-- One operation, with its guard and its slot. -/
theorem OpSnd.ok {P : Program} {B : Nat} {ρ0 : Pm} {G : Nat → Option AV} {f : Oper → List AV → M AV} (hG : GlobOK G ρ0) (hf : OpSnd P B ρ0 f) {N : Nat} {ops : Array Oper} (hd : ∀ (i : Nat) (o : Oper), ops[i]? = some o → ∀ d, o.dst = some d → d < N) : OpOK P B ρ0 ⟨G, f⟩ ops N := by
  intro i o ho a lo h c lg a' h' c' lg' e D ρ act w K Q hle hr hfr hk
  unfold stp at e
  cases hw : wntd ops a o.guard with
  | none => rw [hw] at e; cases e
  | some b =>
    rw [hw, needL_some] at e
    have hy := yielded_get hfr hw
    have hwa : Region.wanted o (yielded ops act.tmps) = b := by
      rw [← hy]
      unfold Region.wanted wantsB
      cases o.guard <;> rfl
    unfold wpOp
    simp only [ho]
    cases b with
    | false =>
      rw [hwa, if_neg (by simp)]
      have e : ret (pt a o.dst (.tup [])) lo h c lg = .ok a' h' c' lg' := e
      injection e with e1 e2 e3 e4
      subst e1 e2 e3 e4
      exact hk ρ _ w (Pm.le.refl ρ) hr (hfr.put (hd i o ho) (by simp only [AV.rp]; exact ⟨#[], rfl, rps_nil.2 rfl⟩)) (Below.refl _ _)
    | true =>
      rw [hwa, if_pos rfl]
      have e : need (evls G a o.op.operands.toList) 11 (fun args => bnd (f o args) fun x => ret (pt a o.dst x)) lo h c lg = .ok a' h' c' lg' := e
      cases hx : evls G a o.op.operands.toList with
      | none => rw [hx] at e; cases e
      | some args =>
        rw [hx, need_some] at e
        obtain ⟨x, h1, c1, lg1, e1, e2⟩ := bnd_ok e
        injection e2 with f1 f2 f3 f4
        subst f1 f2 f3 f4
        refine .inl (hf o args _ _ _ _ _ _ _ _ e1 ρ act w K Q hle hr (evls_rp hG hle hfr hx) fun ρ' v w' l1 l2 l3 l4 => ?_)
        exact hk ρ' _ w' l1 l3 ((hfr.mono l1).put (hd i o ho) l2) l4
end Go.Proofs.YtdflkikhmngfiaaGreatDoor


/- The machine's loads, stores and new blocks, in the program. -/
namespace Go.Proofs.YtdflkikhmngfiaaGreatDoor
open Go.RowKit
set_option linter.unusedVariables false
set_option linter.unusedSimpArgs false
set_option linter.unusedSectionVars false
variable [Sy] [Dc] [DcOK]

/-- An operation that gives a value does so. -/
def VRun (P : Program) (B : Nat) (s : Sem Value) (ρ : Pm) (w : World) (x : AV) (h' : Heap) : Prop := ∃ ρ' v w', s.run P w = .ok v w' ∧ ρ.le ρ' ∧ x.rp ρ' v ∧ Rep B ρ' h' w' ∧ Below B w w'
def URun (P : Program) (B : Nat) (s : Sem Unit) (ρ : Pm) (w : World) (h' : Heap) : Prop := ∃ ρ' w', s.run P w = .ok () w' ∧ ρ.le ρ' ∧ Rep B ρ' h' w' ∧ Below B w w'
theorem VRun.here {P : Program} {B : Nat} {s : Sem Value} {ρ : Pm} {w : World} {x : AV} {h : Heap} {v : Value} (e : s.run P w = .ok v w) (hx : x.rp ρ v) (hr : Rep B ρ h w) : VRun P B s ρ w x h :=
  ⟨ρ, v, w, e, Pm.le.refl ρ, hx, hr, Below.refl _ _⟩
theorem addr_add (b o j : Nat) : (⟨b, o, none⟩ : Addr).add j = ⟨b, o + j, none⟩ := by unfold Addr.add; split <;> simp_all
theorem run_isAggB {P : Program} {t : TypeId} {b : Bool} (e : isAggB P t = some b) (w : World) : (isAgg t).run P w = .ok b w := by
  unfold isAggB at e
  cases hu : P.underlying t with
  | none => rw [hu] at e; cases e
  | some d =>
    rw [hu] at e
    cases d <;> (injection e with e; subst e; simp [isAgg, run_underlying hu])
theorem szO_some {P : Program} {t : TypeId} {k : Nat} (e : szO P t = some k) : ∃ i, P.info? t = some i ∧ i.size = k := by
  unfold szO at e
  cases hi : P.info? t with
  | none => rw [hi] at e; cases e
  | some i => rw [hi] at e; injection e with e; exact ⟨i, rfl, e⟩
theorem run_szO {P : Program} {t : TypeId} {k : Nat} (e : szO P t = some k) (w : World) : (sizeOf t).run P w = .ok k w := by
  obtain ⟨i, hi, rfl⟩ := szO_some e
  simp [sizeOf, typeInfo, hi]
theorem run_zeroO {P : Program} {t : TypeId} {x : AV} (e : zeroO P t = some x) (w : World) : ∃ z, (zeroValue t).run P w = .ok z w ∧ (∀ ρ, x.rp ρ z) ∧ (∃ i, P.info? t = some i ∧ i.zero = some z) ∧ ofV z = some x := by
  unfold zeroO at e
  cases hi : P.info? t with
  | none => rw [hi] at e; cases e
  | some i =>
    rw [hi] at e
    cases hz : i.zero with
    | none => simp [hz] at e
    | some z =>
      simp [hz] at e
      exact ⟨z, by simp [zeroValue, typeInfo, hi, hz], fun ρ => ofV_rp e, ⟨i, rfl, hz⟩, e⟩
/-- Cells that are told, loaded. -/
theorem Rep.cells {P : Program} {B : Nat} {ρ : Pm} {h : Heap} {w : World} (hr : Rep B ρ h w) {n o k : Nat} {l : List AV} (hl : l.length = k) (hc : ∀ i, i < k → cl h n (o + i) = l[i]?) {b f c : Nat} (hn : ρ n = some (b, f, c)) :
    ∃ vs : List Value, (loadCells ⟨b, f + o, none⟩ k).run P w = .ok vs.toArray w ∧ AV.rps ρ l vs ∧ vs.length = k ∧ ∀ i, i < k → w.cell? ⟨b, f + o + i, none⟩ = vs[i]? := by
  have hcell : ∀ i, i < k → ∃ x v, l[i]? = some x ∧ w.cell? ⟨b, f + o + i, none⟩ = some v ∧ x.rp ρ v := fun i hi => by
    obtain ⟨x, hx⟩ : ∃ x, l[i]? = some x := ⟨l[i], List.getElem?_eq_getElem (by omega)⟩
    obtain ⟨b', f', c', v, arr, el, fz, g1, g2, g3, g4, g5, g6, g7⟩ := hr.cell ((hc i hi).trans hx)
    rw [hn] at g1
    injection g1 with g1
    injection g1 with g1 g8
    injection g8 with g8 g9
    subst g1 g8 g9
    exact ⟨x, v, hx, by rw [Nat.add_assoc]; exact g5, g6⟩
  refine ⟨(List.range k).map fun j => (w.cell? ((⟨b, f + o, none⟩ : Addr).add j)).getD undef, ?_, ?_, by simp, fun i hi => ?_⟩
  · exact run_loadCells w _ k _ (fun j hj => by
      obtain ⟨x, v, h1, h2, h3⟩ := hcell j hj
      rw [addr_add, h2]
      rfl)
  · refine rps_at.2 ⟨by simp [hl], fun i x hx => ?_⟩
    have hi : i < k := by have := (List.getElem?_eq_some_iff.1 hx).1; omega
    obtain ⟨x', v, h1, h2, h3⟩ := hcell i hi
    rw [hx] at h1
    injection h1 with h1
    subst h1
    refine ⟨v, ?_, h3⟩
    rw [List.getElem?_map, List.getElem?_range hi]
    show some ((w.cell? ((⟨b, f + o, none⟩ : Addr).add i)).getD undef) = _
    rw [addr_add, h2]
    rfl
  · obtain ⟨x', v, h1, h2, h3⟩ := hcell i hi
    rw [List.getElem?_map, List.getElem?_range hi]
    show _ = some ((w.cell? ((⟨b, f + o, none⟩ : Addr).add i)).getD undef)
    rw [addr_add, h2]
    rfl
theorem need_ok {α β : Type} {o : Option α} {why : Nat} {g : α → M β} {lo : Nat} {h : Heap} {c : Nat} {lg : List Ev} {x : β} {h' : Heap} {c' : Nat} {lg' : List Ev} (e : need o why g lo h c lg = .ok x h' c' lg') : ∃ a, o = some a ∧ g a lo h c lg = .ok x h' c' lg' := by
  cases o with
  | none => cases e
  | some a => exact ⟨a, rfl, e⟩
theorem ret_ok {α : Type} {a x : α} {lo : Nat} {h : Heap} {c : Nat} {lg : List Ev} {h' : Heap} {c' : Nat} {lg' : List Ev} (e : ret a lo h c lg = .ok x h' c' lg') : x = a ∧ h' = h ∧ c' = c ∧ lg' = lg := by
  injection e with e1 e2 e3 e4
  exact ⟨e1.symm, e2.symm, e3.symm, e4.symm⟩
section
variable {P : Program} {B : Nat} {lo : Nat} {h : Heap} {c : Nat} {lg : List Ev} {h' : Heap} {c' : Nat} {lg' : List Ev} {ρ : Pm} {w : World}
theorem loadVar_snd {t : TypeId} {n o : Nat} {y : AV} (e : loadM P t (.ptr n o) lo h c lg = .ok y h' c' lg') (hr : Rep B ρ h w) {b f cc : Nat} (hn : ρ n = some (b, f, cc)) : h' = h ∧ ∃ v, (loadVar t ⟨b, f + o, none⟩).run P w = .ok v w ∧ y.rp ρ v := by
  obtain ⟨ag, hag, e⟩ := need_ok (show need (isAggB P t) 21 (fun b => Bool.rec (motive := fun _ => M AV) (rdC n o) (need (szO P t) 22 fun k => bnd (rdCs n k o) fun l => ret (.agg l)) b) lo h c lg = .ok y h' c' lg' from e)
  have hrun := run_isAggB hag
  cases ag with
  | false =>
    obtain ⟨rfl, _, hc⟩ := rdC_ok e
    obtain ⟨b', f', c2, v, arr, el, fz, g1, g2, g3, g4, g5, g6, g7⟩ := hr.cell hc
    rw [hn] at g1
    injection g1 with g1
    injection g1 with g1 g8
    injection g8 with g8 g9
    subst g1 g8 g9
    refine ⟨rfl, v, ?_, g6⟩
    simp [loadVar, hrun, load, Sem.run, g5]
  | true =>
    obtain ⟨k, hk, e⟩ := need_ok e
    obtain ⟨l, h1, c1, lg1, e1, e2⟩ := bnd_ok e
    obtain ⟨rfl, rfl, rfl, rfl⟩ := ret_ok e2
    obtain ⟨rfl, _, g3, g4⟩ := rdCs_ok e1
    obtain ⟨vs, k1, k2, k3, _⟩ := hr.cells (P := P) g3 g4 hn
    refine ⟨rfl, .agg vs.toArray, ?_, by simp only [AV.rp]; exact ⟨vs.toArray, rfl, by simpa using k2⟩⟩
    simp [loadVar, hrun, run_szO hk, k1]
theorem load_snd {t : TypeId} {x y : AV} {v : Value} (e : loadM P t x lo h c lg = .ok y h' c' lg') (hr : Rep B ρ h w) (hx : x.rp ρ v) : VRun P B (Instr.loadAt t v) ρ w y h' := by
  cases x with
  | ptr n o =>
    simp only [AV.rp] at hx
    obtain ⟨b, f, cc, hn, rfl⟩ := hx
    obtain ⟨rfl, v, k1, k2⟩ := loadVar_snd e hr hn
    exact VRun.here (by simp [Instr.loadAt, Instr.sureAddr, k1]) k2 hr
  | _ => cases e
/-- Cells, written one behind the other. -/
theorem stores_snd {n b f cc : Nat} (hn : ρ n = some (b, f, cc)) : ∀ {l : List AV} {vs : List Value} {o i : Nat} {u : Unit} {h : Heap} {c : Nat} {lg : List Ev} {h' : Heap} {c' : Nat} {lg' : List Ev} {w : World}, wrCs n l (o + i) lo h c lg = .ok u h' c' lg' → AV.rps ρ l vs → Rep B ρ h w →
    ∃ w', (storeCells ⟨b, f + o, none⟩ vs i).run P w = .ok () w' ∧ Rep B ρ h' w' ∧ Below B w w' ∧ (∀ m, mt h' m = mt h m)
  | [], vs, o, i, u, h, c, lg, h', c', lg', w, e, hv, hr => by
    rw [rps_nil] at hv
    subst hv
    obtain ⟨_, rfl, _, _⟩ := ret_ok (show ret () lo h c lg = .ok u h' c' lg' from e)
    exact ⟨w, rfl, hr, Below.refl _ _, fun _ => rfl⟩
  | x :: l, vs, o, i, u, h, c, lg, h', c', lg', w, e, hv, hr => by
    rw [rps_cons] at hv
    obtain ⟨y, m, rfl, hx, hl⟩ := hv
    obtain ⟨ho, e⟩ := want_ok (show want x.one 20 (bnd (wrC n (o + i) x) fun _ => wrCs n l (Nat.succ (o + i))) lo h c lg = .ok u h' c' lg' from e)
    obtain ⟨_, h1, c1, lg1, e1, e2⟩ := bnd_ok e
    obtain ⟨_, ⟨z, hz⟩, hm, hc⟩ := wrC_ok e1
    obtain ⟨b', f', c2, v0, arr, el, fz, g1, g2, g3, g4, g5, g6, g7⟩ := hr.cell hz
    have g1' := g1
    rw [hn] at g1
    injection g1 with g1
    injection g1 with g1 g8
    injection g8 with g8 g9
    subst g1 g8 g9
    obtain ⟨hr1, hb1⟩ := hr.write hz hm hc hn hx
    obtain ⟨w', k1, k2, k3, k4⟩ := stores_snd hn (o := o) (i := i + 1) (show wrCs n l (o + (i + 1)) lo h1 c1 lg1 = .ok u h' c' lg' from e2) hl hr1
    refine ⟨w', ?_, k2, hb1.trans k3, fun m => (k4 m).trans (hm m)⟩
    obtain ⟨q1, q2⟩ := rp_one hx ho
    have hst : (store ((⟨b, f + o, none⟩ : Addr).add i) y).run P w = .ok () (w.setCell ⟨b, f + (o + i), none⟩ y) := by
      rw [addr_add, Nat.add_assoc]
      unfold store
      cases y with
      | agg a => exact absurd rfl (q1 a)
      | tuple a => exact absurd rfl (q2 a)
      | _ => simp [Sem.run, g5, g7]
    show ((store ((⟨b, f + o, none⟩ : Addr).add i) y) >>= fun _ => storeCells ⟨b, f + o, none⟩ m (i + 1)).run P w = _
    rw [Sem.run_bind, hst]
    exact k1
theorem store_snd {t : TypeId} {x y z : AV} {v u : Value} (e : storeM P t x y lo h c lg = .ok z h' c' lg') (hr : Rep B ρ h w) (hx : x.rp ρ v) (hy : y.rp ρ u) : z = .tup [] ∧ URun P B (Instr.storeAt t v u) ρ w h' := by
  cases x with
  | ptr n o =>
    simp only [AV.rp] at hx
    obtain ⟨b, f, cc, hn, rfl⟩ := hx
    obtain ⟨k, hk, e⟩ := need_ok (show need (szO P t) 24 (fun k => want (Nat.beq (lenL y.cells) k) 25 (bnd (wrCs n y.cells o) fun _ => ret (.tup []))) lo h c lg = .ok z h' c' lg' from e)
    obtain ⟨hkl, e⟩ := want_ok e
    obtain ⟨uu, h1, c1, lg1, e1, e2⟩ := bnd_ok e
    obtain ⟨rfl, rfl, rfl, rfl⟩ := ret_ok e2
    have hlen : y.cells.length = k := by rw [← lenL_eq]; exact Nat.eq_of_beq_eq_true hkl
    have ht : ∀ l, y ≠ .tup l := fun l hl => by
      subst hl
      obtain ⟨ho, _⟩ := want_ok (show want (AV.tup l).one 20 (bnd (wrC n o (.tup l)) fun _ => wrCs n [] (Nat.succ o)) lo h c lg = .ok uu _ _ _ from e1)
      cases ho
    have hcs := rp_cells hy ht
    obtain ⟨w', k1, k2, k3, _⟩ := stores_snd (P := P) hn (o := o) (i := 0) e1 hcs hr
    refine ⟨rfl, ρ, w', ?_, Pm.le.refl ρ, k2, k3⟩
    have hsz : u.cells.size = k := by
      have := rps_length hcs
      simp at this
      omega
    simp [Instr.storeAt, Instr.sureAddr, storeVar, run_szO hk, hsz]
    exact k1
  | _ => cases e
/-- A new row. -/
theorem newRow_snd {el : TypeId} {z : Nat} {l : List AV} {n : Nat} (e : newRowM el z l false lo h c lg = .ok n h' c' lg') (hr : Rep B ρ h w) {arr : Array Value} (hl : AV.rps ρ l arr.toList) (cc : Nat) :
    ∃ ρ', ρ.le ρ' ∧ ρ' n = some (w.heap.size, 0, cc) ∧ Rep B ρ' h' (w.alloc (.cells arr el)) ∧ Below B w (w.alloc (.cells arr el)) := by
  obtain ⟨h0, rfl, rfl, _, _⟩ := new_ok e
  refine hr.new h0 rfl fun ρ' hle => ?_
  refine ⟨arr, (0, 0), rfl, .inl rfl, fun i x hx => ?_, fun ho => by cases ho⟩
  have hx : (Tr.ofList l).get i = some x := hx
  rw [Tr.get_ofList] at hx
  obtain ⟨v, h1, h2⟩ := (rps_at.1 hl).2 i x hx
  exact ⟨v, by rw [Nat.zero_add]; simpa using h1, h2.mono hle⟩
theorem box_snd {t : TypeId} {x y : AV} {v : Value} (e : boxM t x lo h c lg = .ok y h' c' lg') (hr : Rep B ρ h w) (hx : x.rp ρ v) : VRun P B (do pure (.pointer (some (← newVar t v)))) ρ w y h' := by
  obtain ⟨ho, e⟩ := want_ok (show want (x.cells.all AV.one) 27 (bnd (newRowM t 1 x.cells false) fun n => ret (.ptr n 0)) lo h c lg = .ok y h' c' lg' from e)
  obtain ⟨n, h1, c1, lg1, e1, e2⟩ := bnd_ok e
  obtain ⟨rfl, rfl, rfl, rfl⟩ := ret_ok e2
  have ht : ∀ l, x ≠ .tup l := fun l hl => by
    subst hl
    cases ho
  obtain ⟨ρ', k1, k2, k3, k4⟩ := newRow_snd e1 hr (rp_cells hx ht) 0
  refine ⟨ρ', .pointer (some ⟨w.heap.size, 0, none⟩), w.alloc (.cells v.cells t), ?_, k1, ?_, k3, k4⟩
  · simp [newVar, newRow]
  · simp only [AV.rp]
    exact ⟨_, _, _, k2, rfl⟩
end
end Go.Proofs.YtdflkikhmngfiaaGreatDoor


/- The machine's values and places, in the program. -/
namespace Go.Proofs.YtdflkikhmngfiaaGreatDoor
open Go.RowKit
set_option linter.unusedVariables false
set_option linter.unusedSimpArgs false
set_option linter.unusedSectionVars false
variable [Sy] [Dc] [DcOK]

theorem rps_drop {ρ : Pm} {l : List AV} {m : List Value} (h : AV.rps ρ l m) (k : Nat) : AV.rps ρ (l.drop k) (m.drop k) := by
  obtain ⟨h1, h2⟩ := rps_at.1 h
  refine rps_at.2 ⟨by simp [h1], fun i x hx => ?_⟩
  rw [List.getElem?_drop] at hx ⊢
  exact h2 _ x hx
theorem rps_take {ρ : Pm} {l : List AV} {m : List Value} (h : AV.rps ρ l m) (k : Nat) : AV.rps ρ (l.take k) (m.take k) := by
  obtain ⟨h1, h2⟩ := rps_at.1 h
  refine rps_at.2 ⟨by simp [h1], fun i x hx => ?_⟩
  rw [List.getElem?_take] at hx ⊢
  split at hx
  · rename_i hi
    rw [if_pos hi]
    exact h2 _ x hx
  · cases hx
theorem inI_some {i : Int} {n j : Nat} (e : inI i n = some j) : i = (j : Int) ∧ j < n := by
  cases i with
  | negSucc m => cases e
  | ofNat m =>
    have e : (bif Nat.blt m n then some m else none) = some j := e
    by_cases h : m < n
    · rw [blt_t h] at e
      injection e with e
      subst e
      exact ⟨rfl, h⟩
    · rw [blt_f h] at e
      cases e
theorem bif_some {α : Type} {b : Bool} {x : Option α} {y : α} (e : (bif b then x else none) = some y) : b = true ∧ x = some y := by
  cases b with
  | false => cases e
  | true => exact ⟨rfl, e⟩
theorem bind_some' {α β : Type} {o : Option α} {f : α → Option β} {y : β} (e : o.bind f = some y) : ∃ x, o = some x ∧ f x = some y := by
  cases o with
  | none => cases e
  | some x => exact ⟨x, rfl, e⟩
section
variable {P : Program} {ρ : Pm} {w : World}
theorem part_snd {t : TypeId} {l : List AV} {off : Nat} {y : AV} (e : partV P t l off = some y) {cs : Array Value} (hl : AV.rps ρ l cs.toList) : ∃ v, (part t cs off).run P w = .ok v w ∧ y.rp ρ v := by
  obtain ⟨b, hb, e⟩ := bind_some' e
  have hrun := run_isAggB hb w
  cases b with
  | false =>
    have e : nthL l off = some y := e
    rw [nthL_eq] at e
    obtain ⟨v, h1, h2⟩ := (rps_at.1 hl).2 off y e
    have h1 : cs[off]? = some v := by simpa using h1
    exact ⟨v, by simp [part, hrun, h1], h2⟩
  | true =>
    have e : (szO P t).bind (fun k => bif Nat.ble (Nat.add off k) (lenL l) then some (.agg (rdyL (takeL k (dropL off l)))) else none) = some y := e
    obtain ⟨k, hk, e⟩ := bind_some' e
    obtain ⟨hle, e⟩ := bif_some e
    injection e with e
    subst e
    rw [rdyL_eq, takeL_eq, dropL_eq]
    refine ⟨.agg (cs.extract off (off + k)), by simp [part, hrun, run_szO hk], ?_⟩
    simp only [AV.rp]
    refine ⟨_, rfl, ?_⟩
    rw [Array.toList_extract, List.extract_eq_take_drop, Nat.add_sub_cancel_left]
    exact rps_take (rps_drop hl off) k
theorem flds_some {t : TypeId} {fs : Array Field} (e : flds P t = some fs) : P.underlying t = some (.struct fs) := by
  unfold flds at e
  split at e
  · rename_i h; injection e with e; subst e; exact h
  · cases e
theorem field_snd {t : TypeId} {x y : AV} {v : Value} {f : Nat} (e : fieldV P t x f = some y) (hx : x.rp ρ v) : ∃ u, (Instr.field t v f).run P w = .ok u w ∧ y.rp ρ u := by
  cases x with
  | agg l =>
    obtain ⟨fs, h1, e⟩ := bind_some' (show (flds P t).bind (fun fs => (fs[f]?).bind fun f => partV P f.type l f.offset) = some y from e)
    obtain ⟨fd, h2, e⟩ := bind_some' e
    simp only [AV.rp] at hx
    obtain ⟨cs, rfl, hl⟩ := hx
    obtain ⟨u, k1, k2⟩ := part_snd (w := w) e hl
    exact ⟨u, by simp [Instr.field, run_underlying (flds_some h1), h2, asAgg, k1], k2⟩
  | _ => cases e
theorem fieldAddr_snd {t : TypeId} {x y : AV} {v : Value} {f : Nat} (e : fieldAddrV P t x f = some y) (hx : x.rp ρ v) : ∃ u, (Instr.fieldAt t v f).run P w = .ok u w ∧ y.rp ρ u := by
  cases x with
  | ptr n o =>
    obtain ⟨fs, h1, e⟩ := bind_some' (show (flds P t).bind (fun fs => (fs[f]?).bind fun f => (szO P f.type).bind fun k => bif Nat.beq k 0 then none else fNat (Nat.add o f.offset) fun o => some (.ptr n o)) = some y from e)
    obtain ⟨fd, h2, e⟩ := bind_some' e
    obtain ⟨k, h3, e⟩ := bind_some' e
    have hk : k ≠ 0 := fun hk => by rw [hk] at e; cases e
    rw [beq_f hk] at e
    have e : fNat (Nat.add o fd.offset) (fun o => some (AV.ptr n o)) = some y := e
    rw [fNat_eq] at e
    injection e with e
    subst e
    simp only [AV.rp] at hx
    obtain ⟨b, g, c, hn, rfl⟩ := hx
    refine ⟨.pointer (some ⟨b, g + (o + fd.offset), none⟩), ?_, by simp only [AV.rp]; exact ⟨b, g, c, hn, rfl⟩⟩
    simp [Instr.fieldAt, run_underlying (flds_some h1), h2, Instr.sureAddr, fieldPlace, run_szO h3, hk, addr_add, Nat.add_assoc]
  | _ => cases e
theorem elS_some {t e : TypeId} (h : elS P t = some e) : P.underlying t = some (.slice e) := by
  unfold elS at h
  split at h
  · rename_i k; injection h with h; subst h; exact k
  · cases h
theorem elA_some {t : TypeId} {p : Nat × TypeId} (h : elA P t = some p) : P.underlying t = some (.array p.1 p.2) := by
  unfold elA at h
  split at h
  · rename_i k; injection h with h; subst h; exact k
  · cases h
theorem indexAddr_snd {t : TypeId} {x i y : AV} {v u : Value} (e : indexAddrV P t x i = some y) (hx : x.rp ρ v) (hi : i.rp ρ u) : ∃ r, (Instr.indexAt t v u).run P w = .ok r w ∧ y.rp ρ r := by
  cases i with
  | int k i =>
    simp only [AV.rp] at hi
    subst hi
    cases x with
    | ptr n o =>
      obtain ⟨p, h1, e⟩ := bind_some' (show (elA P t).bind (fun p => (inI i p.1).bind fun i => (szO P p.2).bind fun k => fNat (Nat.add o (Nat.mul i k)) fun o => some (.ptr n o)) = some y from e)
      obtain ⟨j, h2, e⟩ := bind_some' e
      obtain ⟨sz, h3, e⟩ := bind_some' e
      rw [fNat_eq] at e
      injection e with e
      subst e
      obtain ⟨rfl, hj⟩ := inI_some h2
      simp only [AV.rp] at hx
      obtain ⟨b, g, c, hn, rfl⟩ := hx
      have hj2 : (j : Int) < (p.1 : Int) := by omega
      refine ⟨.pointer (some ⟨b, g + (o + j * sz), none⟩), ?_, by simp only [AV.rp]; exact ⟨b, g, c, hn, rfl⟩⟩
      simp [Instr.indexAt, asIntOf, run_underlying (elA_some h1), Instr.sureAddr, run_szO h3, hj, hj2, addr_add, Nat.add_assoc]
    | sl n o len cap =>
      obtain ⟨el, h1, e⟩ := bind_some' (show (elS P t).bind (fun e => (inI i len).bind fun i => (szO P e).bind fun k => fNat (Nat.add o (Nat.mul i k)) fun o => some (.ptr n o)) = some y from e)
      obtain ⟨j, h2, e⟩ := bind_some' e
      obtain ⟨sz, h3, e⟩ := bind_some' e
      rw [fNat_eq] at e
      injection e with e
      subst e
      obtain ⟨rfl, hj⟩ := inI_some h2
      simp only [AV.rp] at hx
      obtain ⟨b, g, c, hn, rfl⟩ := hx
      have hj2 : (j : Int) < (len : Int) := by omega
      refine ⟨.pointer (some ⟨b, g + (o + j * sz), none⟩), ?_, by simp only [AV.rp]; exact ⟨b, g, c, hn, rfl⟩⟩
      simp [Instr.indexAt, asIntOf, run_underlying (elS_some h1), run_szO h3, hj, hj2, addr_add, Nat.add_assoc]
    | os n z f len =>
      obtain ⟨el, h1, e⟩ := bind_some' (show (elS P t).bind (fun el => (inI i len).bind fun i => (szO P el).bind fun k => bif Nat.beq k z then fNat (Nat.mul (Nat.add f i) k) fun o => some (.ptr n o) else none) = some y from e)
      obtain ⟨j, h2, e⟩ := bind_some' e
      obtain ⟨sz, h3, e⟩ := bind_some' e
      obtain ⟨hz, e5⟩ := bif_some e
      obtain rfl := Nat.eq_of_beq_eq_true hz
      rw [fNat_eq] at e5
      injection e5 with e5
      subst e5
      obtain ⟨rfl, hj⟩ := inI_some h2
      simp only [AV.rp] at hx
      obtain ⟨b, g, c, hn, hlc, rfl⟩ := hx
      have hj2 : (j : Int) < (len : Int) := by omega
      refine ⟨.pointer (some ⟨b, g + (f + j) * sz, none⟩), ?_, by simp only [AV.rp]; exact ⟨b, g, c, hn, rfl⟩⟩
      have : g + f * sz + j * sz = g + (f + j) * sz := by rw [Nat.add_mul, Nat.add_assoc]
      simp [Instr.indexAt, asIntOf, run_underlying (elS_some h1), run_szO h3, hj, hj2, addr_add, this]
    | _ => cases e
  | _ => cases e
theorem index_snd {t : TypeId} {x i y : AV} {v u : Value} (e : indexV P t x i = some y) (hx : x.rp ρ v) (hi : i.rp ρ u) : ∃ r, (Instr.index t v u).run P w = .ok r w ∧ y.rp ρ r := by
  cases i with
  | int k i =>
    simp only [AV.rp] at hi
    subst hi
    cases x with
    | str l =>
      unfold indexV at e
      dsimp only at e
      split at e
      · rename_i hu
        cases i with
        | negSucc m => cases e
        | ofNat m =>
          obtain ⟨b, h1, e⟩ := bind_some' (show (nthL l m).bind (fun b => some (.int .u8 (.ofNat b))) = some y from e)
          injection e with e
          subst e
          rw [nthL_eq] at h1
          simp only [AV.rp] at hx
          obtain ⟨hlt, rfl⟩ := hx
          have hb := hlt b (List.mem_of_getElem? h1)
          have hm : m < l.length := (List.getElem?_eq_some_iff.1 h1).1
          refine ⟨.int .u8 (b : Int), ?_, by simp only [AV.rp]; rfl⟩
          have hg : (bytesOf l)[m]? = some (UInt8.ofNat b) := by
            have hs : m < (bytesOf l).size := by rw [bytesOf_size]; exact hm
            rw [getElem?_pos (bytesOf l) m hs]
            congr 1
            show (bytesOf l).data[m] = _
            have : (bytesOf l).data[m]? = some (UInt8.ofNat b) := by simp [bytesOf, h1]
            exact (Array.getElem?_eq_some_iff.1 this).2
          have hn : ((UInt8.ofNat b).toNat : Int) = (b : Int) := by
            rw [UInt8.toNat_ofNat_of_lt' hb]
          simp [Instr.index, asIntOf, run_underlying hu, hg, hn]
          omega
      · cases e
    | agg l =>
      obtain ⟨p, h1, e⟩ := bind_some' (show (elA P t).bind (fun p => (inI i p.1).bind fun i => (szO P p.2).bind fun k => partV P p.2 l (Nat.mul i k)) = some y from e)
      obtain ⟨j, h2, e⟩ := bind_some' e
      obtain ⟨sz, h3, e5⟩ := bind_some' e
      obtain ⟨rfl, hj⟩ := inI_some h2
      have hj2 : (j : Int) < (p.1 : Int) := by omega
      simp only [AV.rp] at hx
      obtain ⟨cs, rfl, hl⟩ := hx
      obtain ⟨r, k1, k2⟩ := part_snd (w := w) e5 hl
      refine ⟨r, ?_, k2⟩
      have k1 : (part p.2 cs (j * sz)).run P w = .ok r w := k1
      simp [Instr.index, asIntOf, run_underlying (elA_some h1), run_szO h3, hj, hj2, k1]
    | _ => cases e
  | _ => cases e
end
end Go.Proofs.YtdflkikhmngfiaaGreatDoor


/- The machine's texts, slices and literals, in the program. -/
namespace Go.Proofs.YtdflkikhmngfiaaGreatDoor
open Go.RowKit
set_option linter.unusedVariables false
set_option linter.unusedSimpArgs false
set_option linter.unusedSectionVars false
variable [Sy] [Dc] [DcOK]

theorem bytesOf_tl (l : List Nat) : (bytesOf l).toList = l.map UInt8.ofNat := by rw [ByteArray.toList_eq]; exact bytesOf_toList l
theorem ofNat_inj {a b : Nat} (ha : a < 256) (hb : b < 256) (h : UInt8.ofNat a = UInt8.ofNat b) : a = b := by
  have := congrArg UInt8.toNat h
  rwa [UInt8.toNat_ofNat_of_lt' ha, UInt8.toNat_ofNat_of_lt' hb] at this
theorem map_ofNat_inj : ∀ {l m : List Nat}, (∀ b ∈ l, b < 256) → (∀ b ∈ m, b < 256) → l.map UInt8.ofNat = m.map UInt8.ofNat → l = m
  | [], [], _, _, _ => rfl
  | [], _ :: _, _, _, h => by simp at h
  | _ :: _, [], _, _, h => by simp at h
  | x :: l, y :: m, h1, h2, h => by
    simp only [List.map_cons, List.cons.injEq] at h
    rw [ofNat_inj (h1 x (by simp)) (h2 y (by simp)) h.1, map_ofNat_inj (fun b hb => h1 b (by simp [hb])) (fun b hb => h2 b (by simp [hb])) h.2]
theorem map_ofNat_beq {l m : List Nat} (h1 : ∀ b ∈ l, b < 256) (h2 : ∀ b ∈ m, b < 256) : (l.map UInt8.ofNat == m.map UInt8.ofNat) = (l == m) := by
  by_cases h : l = m
  · subst h; simp
  · have : l.map UInt8.ofNat ≠ m.map UInt8.ofNat := fun k => h (map_ofNat_inj h1 h2 k)
    rw [beq_eq_false_iff_ne.2 h, beq_eq_false_iff_ne.2 this]
theorem ltL_eq : ∀ {l m : List Nat}, (∀ b ∈ l, b < 256) → (∀ b ∈ m, b < 256) → Op.bytesLess (l.map UInt8.ofNat) (m.map UInt8.ofNat) = ltL l m
  | [], [], _, _ => rfl
  | [], _ :: _, _, _ => rfl
  | _ :: _, [], _, _ => rfl
  | x :: l, y :: m, h1, h2 => by
    have hx := h1 x (by simp)
    have hy := h2 y (by simp)
    have e : ltL (x :: l) (y :: m) = Bool.rec (motive := fun _ => Bool) (Bool.rec (motive := fun _ => Bool) false (ltL l m) (Nat.beq x y)) true (Nat.blt x y) := rfl
    rw [e, List.map_cons, List.map_cons, Op.bytesLess, ltL_eq (fun b hb => h1 b (by simp [hb])) (fun b hb => h2 b (by simp [hb]))]
    have hlt : (UInt8.ofNat x < UInt8.ofNat y) ↔ x < y := by
      rw [UInt8.lt_iff_toNat_lt, UInt8.toNat_ofNat_of_lt' hx, UInt8.toNat_ofNat_of_lt' hy]
    by_cases h : x < y
    · rw [blt_t h, decide_eq_true (hlt.2 h)]; rfl
    · rw [blt_f h, decide_eq_false (fun k => h (hlt.1 k))]
      by_cases he : x = y
      · subst he
        rw [beq_t rfl]; simp
      · rw [beq_f he]
        have : ¬ UInt8.ofNat x = UInt8.ofNat y := fun k => he (ofNat_inj hx hy k)
        simp [this]
theorem bytesOf_app (a b : List Nat) : bytesOf a ++ bytesOf b = bytesOf (a ++ b) := by
  apply Go.WideShapes.bytes_inj
  simp [bytesOf]
section
variable {P : Program} {ρ : Pm} {w : World}
theorem strOp_snd {op : BinOp} {a b : List Nat} {z : AV} (e : strOp op a b = some z) (ha : ∀ x ∈ a, x < 256) (hb : ∀ x ∈ b, x < 256) (t : TypeId) :
    ∃ v, (binOp op t (.string (bytesOf a)) (.string (bytesOf b))).run P w = .ok v w ∧ z.rp ρ v := by
  have heq := map_ofNat_beq ha hb
  have hlt := ltL_eq ha hb
  have hrun : (binOp op t (.string (bytesOf a)) (.string (bytesOf b))) = Op.stringOp op (bytesOf a) (bytesOf b) := by cases op <;> rfl
  rw [hrun]
  unfold Op.stringOp
  simp only [bytesOf_tl, heq, hlt]
  cases op with
  | add =>
    obtain ⟨h1, e⟩ := bif_some (show (bif Nat.blt (Nat.add (lenL a) (lenL b)) 1000000 then sv (appL a b) else none) = some z from e)
    rw [lenL_eq, lenL_eq, blt_iff] at h1
    have h1 : a.length + b.length < 1000000 := h1
    rw [sv_eq, appL_eq] at e
    injection e with e
    subst e
    have hm : ¬ (((bytesOf a).size + (bytesOf b).size : Nat) : Int) > IntKind.i64.max := by
      rw [bytesOf_size, bytesOf_size, show IntKind.i64.max = 9223372036854775807 from rfl]
      omega
    refine ⟨.string (bytesOf a ++ bytesOf b), by dsimp only; rw [if_neg hm]; rfl, ?_⟩
    simp only [AV.rp]
    exact ⟨fun x hx => by rcases List.mem_append.1 hx with h | h; exact ha x h; exact hb x h, by rw [bytesOf_app]⟩
  | eql => simp only [strOp, bv, eqL_eq, Option.some.injEq] at e; subst e; exact ⟨_, rfl, by simp only [AV.rp]⟩
  | neq => simp only [strOp, bv, eqL_eq, Option.some.injEq] at e; subst e; exact ⟨_, rfl, by simp only [AV.rp]⟩
  | lss => simp only [strOp, bv, eqL_eq, Option.some.injEq] at e; subst e; exact ⟨_, rfl, by simp only [AV.rp]⟩
  | leq => simp only [strOp, bv, eqL_eq, Option.some.injEq] at e; subst e; exact ⟨_, rfl, by simp only [AV.rp]⟩
  | gtr => simp only [strOp, bv, eqL_eq, Option.some.injEq] at e; subst e; exact ⟨_, rfl, by simp only [AV.rp]⟩
  | geq => simp only [strOp, bv, eqL_eq, Option.some.injEq] at e; subst e; exact ⟨_, rfl, by simp only [AV.rp]⟩
  | _ => cases e
theorem unV_snd {op : UnOp} {x y : AV} {v : Value} (e : unV op x = some y) (hx : x.rp ρ v) : ∃ u, (Op.unary op v).run P w = .ok u w ∧ y.rp ρ u := by
  cases x with
  | bool b =>
    simp only [AV.rp] at hx
    subst hx
    cases op with
    | not => injection e with e; subst e; exact ⟨.bool (!b), rfl, by simp only [AV.rp]⟩
    | _ => cases e
  | int k n =>
    simp only [AV.rp] at hx
    subst hx
    cases op with
    | neg =>
      have e : iv k (Int.sub 0 n) = some y := e
      rw [iv_eq] at e
      injection e with e
      subst e
      exact ⟨.int k (k.wrap (0 - n)), rfl, by simp only [AV.rp]; rfl⟩
    | xor =>
      have e : iv k (BitVec.ofInt k.bits (if k.signed then -1 else k.max) ^^^ BitVec.ofInt k.bits n).toNat = some y := e
      rw [iv_eq] at e
      injection e with e
      subst e
      exact ⟨.int k (k.wrap (BitVec.ofInt k.bits (if k.signed then -1 else k.max) ^^^ BitVec.ofInt k.bits n).toNat), rfl, by simp only [AV.rp]⟩
    | _ => cases e
  | _ => cases op <;> cases e
/-- A bound, in the program. -/
theorem bnd1_some {d : Nat} {v : Option AV} {y j : Nat} (e : bnd1 d v y = some j) : (v = none ∧ j = d) ∨ ∃ k, v = some (.int k (j : Int)) ∧ j ≤ y := by
  cases v with
  | none => injection e with e; exact .inl ⟨rfl, e.symm⟩
  | some x =>
    cases x with
    | int k i =>
      obtain ⟨rfl, h⟩ := inI_some (show inI i (Nat.succ y) = some j from e)
      exact .inr ⟨k, rfl, by omega⟩
    | _ => cases e
/-- A value that may lack. -/
def rpo (ρ : Pm) : Option AV → Option Value → Prop
  | none, none => True
  | some x, some v => x.rp ρ v
  | _, _ => False
theorem rpo_none {ρ : Pm} {v : Option Value} (h : rpo ρ none v) : v = none := by cases v with | none => rfl | some _ => exact h.elim
theorem rpo_int {ρ : Pm} {k : IntKind} {i : Int} {v : Option Value} (h : rpo ρ (some (.int k i)) v) : v = some (.int k i) := by
  cases v with
  | none => exact h.elim
  | some v => exact congrArg some (by simpa only [rpo, AV.rp] using h)
theorem run_bound (k : IntKind) (j y : Nat) (h : j ≤ y) (code : BoundsCode) : (Instr.sliceBound (.int k (j : Int)) y code).run P w = .ok j w := by
  have : (0 : Int) ≤ j ∧ (j : Int) ≤ (y : Int) := by omega
  simp [Instr.sliceBound, asIntOf, this]
theorem bounds_snd {s : Bool} {len cap : Nat} {lo hi mx : Option AV} {m hh l : Nat} (e1 : bnd1 cap mx cap = some m) (e2 : bnd1 len hi m = some hh) (e3 : bnd1 0 lo hh = some l) (hm : mx.isSome = true → hi.isSome = true) {vl vh vm : Option Value} (hl : rpo ρ lo vl) (hhi : rpo ρ hi vh) (hmx : rpo ρ mx vm) :
    (Instr.sliceBounds s len cap vl vh vm).run P w = .ok (l, hh, m) w := by
  unfold Instr.sliceBounds
  rcases bnd1_some e1 with ⟨rfl, rfl⟩ | ⟨k1, rfl, q1⟩
  · obtain rfl := rpo_none hmx
    rcases bnd1_some e2 with ⟨rfl, rfl⟩ | ⟨k2, rfl, q2⟩
    · obtain rfl := rpo_none hhi
      rcases bnd1_some e3 with ⟨rfl, rfl⟩ | ⟨k3, rfl, q3⟩
      · obtain rfl := rpo_none hl
        simp
      · obtain rfl := rpo_int hl
        simp [run_bound _ _ _ q3]
    · obtain rfl := rpo_int hhi
      rcases bnd1_some e3 with ⟨rfl, rfl⟩ | ⟨k3, rfl, q3⟩
      · obtain rfl := rpo_none hl
        simp [run_bound _ _ _ q2]
      · obtain rfl := rpo_int hl
        simp [run_bound _ _ _ q2, run_bound _ _ _ q3]
  · obtain rfl := rpo_int hmx
    rcases bnd1_some e2 with ⟨rfl, rfl⟩ | ⟨k2, rfl, q2⟩
    · cases hm rfl
    · obtain rfl := rpo_int hhi
      rcases bnd1_some e3 with ⟨rfl, rfl⟩ | ⟨k3, rfl, q3⟩
      · obtain rfl := rpo_none hl
        simp [run_bound _ _ _ q1, run_bound _ _ _ q2]
      · obtain rfl := rpo_int hl
        simp [run_bound _ _ _ q1, run_bound _ _ _ q2, run_bound _ _ _ q3]
end
end Go.Proofs.YtdflkikhmngfiaaGreatDoor

