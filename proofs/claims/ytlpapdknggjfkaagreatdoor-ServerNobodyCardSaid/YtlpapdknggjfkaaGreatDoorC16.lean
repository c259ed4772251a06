/- Code that the machine runs, in the program. -/
import Derived.Test.YtlpapdknggjfkaaGreatDoorC13
import Derived.Test.YtlpapdknggjfkaaGreatDoorC14
import Derived.Scope
namespace Go.Proofs.YtlpapdknggjfkaaGreatDoor
open Go.RowKit
set_option linter.unusedVariables false
set_option linter.unusedSimpArgs false
set_option linter.unusedSectionVars false
variable [Sy]

/-- What an operation of the machine does, the program's does. -/
def OpSnd (P : Program) (B : Nat) (ρ0 : Pm) (f : Oper → List AV → M AV) : Prop := ∀ (o : Oper) args lo h c lg x h' c' lg', f o args lo h c lg = .ok x h' c' lg' → ∀ (ρ : Pm) (act : Act) (w : World) (K : Act → World → Prop) (Q : Exit → Act → World → Prop), ρ0.le ρ → Rep B ρ h w →
  AV.rps ρ args (o.op.operands.toList.map act.eval) → act.defers = [] → (∀ ρ' v w', ρ.le ρ' → x.rp ρ' v → Rep B ρ' h' w' → Below B w w' → K (act.put o.dst v) w') → o.wp P act w K Q
/-- What a call comes to: a function's run, or a value at once. -/
def CallRes (P : Program) (B : Nat) (f : FuncId) (vs : Array Value) (ρ : Pm) (w : World) (x : AV) (h' : Heap) : Prop :=
  ((callFunc f vs).run P w = .ok (.enter f vs) w ∧ Calls P f vs w fun e w' => ∃ ρ' v, e = .returned v ∧ ρ.le ρ' ∧ x.rp ρ' v ∧ Rep B ρ' h' w' ∧ Below B w w') ∨
  ∃ ρ' v w', (callFunc f vs).run P w = .ok (.value v) w' ∧ ρ.le ρ' ∧ x.rp ρ' v ∧ Rep B ρ' h' w' ∧ Below B w w'
def CallSnd (P : Program) (B : Nat) (ρ0 : Pm) (call : FuncId → List AV → M AV) : Prop := ∀ f args lo h c lg x h' c' lg', call f args lo h c lg = .ok x h' c' lg' → ∀ (ρ : Pm) (w : World) (vs : Array Value), ρ0.le ρ → Rep B ρ h w → AV.rps ρ args vs.toList →
  CallRes P B f vs ρ w x h'
/-- The program's variables, as the machine sees them. -/
def GlobOK (G : Nat → Option AV) (ρ0 : Pm) : Prop := ∀ g x, G g = some x → x.rp ρ0 (.pointer (some ⟨g, 0, none⟩))
theorem evl_rp {G : Nat → Option AV} {ρ0 ρ : Pm} (hG : GlobOK G ρ0) (hle : ρ0.le ρ) {N : Nat} {a : Tr AV} {act : Act} (hf : Frm ρ N a act) {o : Operand} {x : AV} (e : evl G a o = some x) : x.rp ρ (act.eval o) := by
  cases o with
  | tmp t =>
    obtain ⟨v, h1, h2⟩ := hf.slot t x e
    show x.rp ρ (act.tmps.getD t undef)
    rw [Array.getD_eq_getD_getElem?, h1]
    exact h2
  | const v => exact ofV_rp e
  | global g => exact (hG g x e).mono hle
  | func f =>
    injection e with e
    subst e
    simp only [AV.rp]
    exact ⟨#[], #[], rfl, rps_nil.2 rfl, rps_nil.2 rfl⟩
theorem evls_rp {G : Nat → Option AV} {ρ0 ρ : Pm} (hG : GlobOK G ρ0) (hle : ρ0.le ρ) {N : Nat} {a : Tr AV} {act : Act} (hf : Frm ρ N a act) : ∀ {l : List Operand} {m : List AV}, evls G a l = some m → AV.rps ρ m (l.map act.eval)
  | [], m, e => by
    have e : some [] = some m := e
    injection e with e
    subst e
    exact rps_nil.2 rfl
  | o :: l, m, e => by
    obtain ⟨x, m', rfl, h1, h2⟩ := evls_cons e
    exact rps_cons.2 ⟨_, _, rfl, evl_rp hG hle hf h1, evls_rp hG hle hf h2⟩
def wantsB (ops : Array Oper) (tmps : Array Value) (g : Option (Nat × Bool)) : Bool := match g with | none => true | some (j, want) => yielded ops tmps j == some want
theorem yielded_get {ops : Array Oper} {ρ : Pm} {N : Nat} {a : Tr AV} {act : Act} (hf : Frm ρ N a act) {g : Option (Nat × Bool)} {b : Bool} (e : wntd ops a g = some b) :
    wantsB ops act.tmps g = b := by
  unfold wantsB
  unfold wntd at e
  cases g with
  | none =>
    have e : some true = some b := e
    injection e
  | some p =>
    obtain ⟨j, wt⟩ := p
    dsimp only at e ⊢
    unfold yielded
    cases ht : (ops[j]?).bind (·.dst) with
    | none =>
      rw [ht] at e
      have e : some false = some b := e
      exact Option.some.inj e
    | some t =>
      rw [ht] at e
      dsimp only at e
      cases hx : a.get t with
      | none => rw [hx] at e; cases e
      | some x =>
        rw [hx] at e
        have e : boolOf x wt = some b := e
        obtain ⟨v, h1, h2⟩ := hf.slot t x hx
        show ((match (some t).bind (fun t => act.tmps[t]?) with | some (.bool b) => some b | _ => none) == some wt) = b
        rw [Option.bind_some, h1]
        unfold boolOf at e
        cases x with
        | bool c =>
          simp only [AV.rp] at h2
          subst h2
          injection e with e
          subst e
          cases c <;> cases wt <;> rfl
        | un i => cases e
        | _ =>
          injection e with e
          subst e
          have hv : ∀ c, v ≠ .bool c := fun c hc => by
            subst hc
            simp only [AV.rp] at h2
            first
              | exact Value.noConfusion h2
              | (obtain ⟨_, h2⟩ := h2; exact Value.noConfusion h2)
              | (obtain ⟨_, h2, _⟩ := h2; exact Value.noConfusion h2)
              | (obtain ⟨_, _, h2⟩ := h2; exact Value.noConfusion h2)
              | (obtain ⟨_, _, h2, _⟩ := h2; exact Value.noConfusion h2)
              | (obtain ⟨_, _, _, _, h2⟩ := h2; exact Value.noConfusion h2)
              | (obtain ⟨_, _, _, _, _, h2⟩ := h2; exact Value.noConfusion h2)
          cases v with
          | bool c => exact absurd rfl (hv c)
          | _ => rfl
/-- One operation, with its guard and its slot. -/
theorem OpSnd.ok {P : Program} {B : Nat} {ρ0 : Pm} {G : Nat → Option AV} {f : Oper → List AV → M AV} (hG : GlobOK G ρ0) (hf : OpSnd P B ρ0 f) {N : Nat} {ops : Array Oper} (hd : ∀ (i : Nat) (o : Oper), ops[i]? = some o → ∀ d, o.dst = some d → d < N) : OpOK P B ρ0 ⟨G, f⟩ ops N := by
  intro i o ho a lo h c lg a' h' c' lg' e ρ act w K Q hle hr hfr hk
  unfold stp at e
  cases hw : wntd ops a o.guard with
  | none => rw [hw] at e; cases e
  | some b =>
    rw [hw, need_some] at e
    have hy := yielded_get hfr hw
    have hwa : Region.wanted o (yielded ops act.tmps) = b := by
      rw [← hy]
      unfold Region.wanted wantsB
      cases o.guard <;> rfl
    unfold wpOp
    simp only [ho]
    cases b with
    | false =>
      rw [hwa, if_neg (by simp)]
      have e : ret (pt a o.dst (.tup [])) lo h c lg = .ok a' h' c' lg' := e
      injection e with e1 e2 e3 e4
      subst e1 e2 e3 e4
      exact hk ρ _ w (Pm.le.refl ρ) hr (hfr.put (hd i o ho) (by simp only [AV.rp]; exact ⟨#[], rfl, rps_nil.2 rfl⟩)) (Below.refl _ _)
    | true =>
      rw [hwa, if_pos rfl]
      have e : need (evls G a o.op.operands.toList) 11 (fun args => bnd (f o args) fun x => ret (pt a o.dst x)) lo h c lg = .ok a' h' c' lg' := e
      cases hx : evls G a o.op.operands.toList with
      | none => rw [hx] at e; cases e
      | some args =>
        rw [hx, need_some] at e
        obtain ⟨x, h1, c1, lg1, e1, e2⟩ := bnd_ok e
        injection e2 with f1 f2 f3 f4
        subst f1 f2 f3 f4
        refine .inl (hf o args _ _ _ _ _ _ _ _ e1 ρ act w K Q hle hr (evls_rp hG hle hfr hx) hfr.defers fun ρ' v w' l1 l2 l3 l4 => ?_)
        exact hk ρ' _ w' l1 l3 ((hfr.mono l1).put (hd i o ho) l2) l4
end Go.Proofs.YtlpapdknggjfkaaGreatDoor

