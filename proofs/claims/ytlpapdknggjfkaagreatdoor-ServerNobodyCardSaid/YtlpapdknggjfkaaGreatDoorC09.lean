/- A region's operations: in the text's order, and in any. -/
import Derived.Test.YtlpapdknggjfkaaGreatDoorC08
namespace Go.Proofs.YtlpapdknggjfkaaGreatDoor
open Go.RowKit
set_option linter.unusedVariables false
set_option linter.unusedSimpArgs false
set_option linter.unusedSectionVars false
variable [Sy]

/-- A value of one cell that is written in the code. -/
def cellV : Value → Option AV
  | .bool b => some (.bool b)
  | .int k n => some (.int k n)
  | .string s => some (.str (s.data.toList.map UInt8.toNat))
  | .pointer none => some .nilp
  | .slice none 0 0 => some .nils
  | .map none => some .nilm
  | .nilFunc => some .nilf
  | .nilIface => some .nili
  | _ => none
def cellVs : List Value → Option (List AV)
  | [] => some []
  | v :: l => match cellV v, cellVs l with
    | some x, some m => some (x :: m)
    | _, _ => none
def ofV : Value → Option AV
  | .agg a => (cellVs a.toList).map .agg
  | .tuple a => (cellVs a.toList).map .tup
  | v => cellV v
theorem toNat_ofNat_list : ∀ l : List UInt8, (l.map UInt8.toNat).map UInt8.ofNat = l
  | [] => rfl
  | x :: l => by simp [toNat_ofNat_list l]
theorem cellV_rp {ρ : Pm} {v : Value} {x : AV} (h : cellV v = some x) : x.rp ρ v := by
  unfold cellV at h
  split at h
  all_goals first
    | (injection h with h; subst h; simp only [AV.rp]; done)
    | skip
  · injection h with h
    subst h
    rename_i s
    simp only [AV.rp]
    refine ⟨fun b hb => ?_, ?_⟩
    · obtain ⟨u, _, rfl⟩ := List.mem_map.1 hb
      exact u.toNat_lt
    · unfold bytesOf
      rw [toNat_ofNat_list]
  · cases h
theorem cellVs_rp {ρ : Pm} : ∀ {l : List Value} {m : List AV}, cellVs l = some m → AV.rps ρ m l
  | [], m, h => by simp [cellVs] at h; subst h; exact rps_nil.2 rfl
  | v :: l, m, h => by
    unfold cellVs at h
    split at h
    · rename_i x m2 h1 h2
      injection h with h
      subst h
      exact rps_cons.2 ⟨v, l, rfl, cellV_rp h1, cellVs_rp h2⟩
    · cases h
theorem ofV_rp {ρ : Pm} {v : Value} {x : AV} (h : ofV v = some x) : x.rp ρ v := by
  unfold ofV at h
  split at h
  · rename_i a
    cases hm : cellVs a.toList with
    | none => rw [hm] at h; cases h
    | some m =>
      rw [hm] at h
      injection h with h
      subst h
      simp only [AV.rp]
      exact ⟨a, rfl, cellVs_rp hm⟩
  · rename_i a
    cases hm : cellVs a.toList with
    | none => rw [hm] at h; cases h
    | some m =>
      rw [hm] at h
      injection h with h
      subst h
      simp only [AV.rp]
      exact ⟨a, rfl, cellVs_rp hm⟩
  · exact cellV_rp h
abbrev Frame' := Tr AV
/-- The machine's frame tells of a frame of N slots. -/
structure Frm (ρ : Pm) (N : Nat) (a : Tr AV) (act : Act) : Prop where
  defers : act.defers = []
  size : act.tmps.size = N
  slot : ∀ t x, a.get t = some x → ∃ v, act.tmps[t]? = some v ∧ x.rp ρ v
theorem Frm.mono {ρ ρ' : Pm} {N : Nat} {a : Tr AV} {act : Act} (h : Frm ρ N a act) (hr : ρ.le ρ') : Frm ρ' N a act :=
  ⟨h.defers, h.size, fun t x hx => let ⟨v, h1, h2⟩ := h.slot t x hx; ⟨v, h1, h2.mono hr⟩⟩
theorem Frm.same {ρ : Pm} {N : Nat} {a b : Tr AV} {act : Act} (h : Frm ρ N a act) (hb : ∀ t, b.get t = a.get t) : Frm ρ N b act :=
  ⟨h.defers, h.size, fun t x hx => h.slot t x ((hb t).symm.trans hx)⟩
noncomputable def pt (a : Tr AV) (d : Option Tmp) (x : AV) : Tr AV := Option.rec (motive := fun _ => Tr AV) a (fun d => a.set d x) d
theorem get_pt (a : Tr AV) (d : Option Tmp) (x : AV) (t : Nat) : (pt a d x).get t = if d = some t then some x else a.get t := by
  cases d with
  | none => rw [if_neg (by simp)]; rfl
  | some d =>
    show (a.set d x).get t = _
    rw [Tr.get_set]
    by_cases h : t = d
    · rw [if_pos h, if_pos (by rw [h])]
    · rw [if_neg h, if_neg (by simpa using fun e => h e.symm)]
theorem Frm.put {ρ : Pm} {N : Nat} {a : Tr AV} {act : Act} (h : Frm ρ N a act) {d : Option Tmp} (hd : ∀ t, d = some t → t < N) {x : AV} {v : Value} (hx : x.rp ρ v) : Frm ρ N (pt a d x) (act.put d v) := by
  cases d with
  | none => exact h
  | some d =>
    refine ⟨h.defers, by simp [Act.put, h.size], fun t y hy => ?_⟩
    rw [get_pt] at hy
    have hdN := hd d rfl
    by_cases e : some d = some t
    · rw [if_pos e] at hy
      injection e with e
      injection hy with hy
      subst e hy
      refine ⟨v, ?_, hx⟩
      show (act.tmps.setIfInBounds d v)[d]? = _
      rw [Array.getElem?_setIfInBounds, if_pos rfl, if_pos (by rw [h.size]; exact hdN)]
    · rw [if_neg e] at hy
      obtain ⟨u, h1, h2⟩ := h.slot t y hy
      refine ⟨u, ?_, h2⟩
      show (act.tmps.setIfInBounds d v)[t]? = _
      rw [Array.getElem?_setIfInBounds, if_neg (by simpa using e)]
      exact h1
/-- A machine's way with operations: what a program's variables are, and what an operation of these values does. -/
structure Mach where
  glob : Nat → Option AV
  op : Oper → List AV → M AV
noncomputable def evl (G : Nat → Option AV) (a : Tr AV) : Operand → Option AV
  | .tmp t => a.get t
  | .const v => ofV v
  | .global g => G g
  | .func f => some (.func (.func f) [] [])
noncomputable def evls (G : Nat → Option AV) (a : Tr AV) (l : List Operand) : Option (List AV) :=
  List.rec (motive := fun _ => Option (List AV)) (some []) (fun o _ ih => Option.rec (motive := fun _ => Option (List AV)) none (fun x => Option.rec (motive := fun _ => Option (List AV)) none (fun m => some (x :: m)) ih) (evl G a o)) l
theorem evls_cons {G : Nat → Option AV} {a : Tr AV} {o : Operand} {l : List Operand} {m : List AV} (h : evls G a (o :: l) = some m) : ∃ x m', m = x :: m' ∧ evl G a o = some x ∧ evls G a l = some m' := by
  have e : evls G a (o :: l) = Option.rec (motive := fun _ => Option (List AV)) none (fun x => Option.rec (motive := fun _ => Option (List AV)) none (fun m => some (x :: m)) (evls G a l)) (evl G a o) := rfl
  rw [e] at h
  cases h1 : evl G a o with
  | none => rw [h1] at h; cases h
  | some x =>
    rw [h1] at h
    cases h2 : evls G a l with
    | none => rw [h2] at h; cases h
    | some m' => rw [h2] at h; injection h with h; exact ⟨x, m', h.symm, rfl, rfl⟩
theorem evls_congr {G : Nat → Option AV} {a b : Tr AV} : ∀ {l : List Operand}, (∀ t, Operand.tmp t ∈ l → b.get t = a.get t) → evls G b l = evls G a l
  | [], _ => rfl
  | o :: l, h => by
    have e : ∀ a, evls G a (o :: l) = Option.rec (motive := fun _ => Option (List AV)) none (fun x => Option.rec (motive := fun _ => Option (List AV)) none (fun m => some (x :: m)) (evls G a l)) (evl G a o) := fun _ => rfl
    rw [e, e, evls_congr (fun t ht => h t (by simp [ht]))]
    have : evl G b o = evl G a o := by
      cases o with
      | tmp t => exact h t (by simp)
      | _ => rfl
    rw [this]
noncomputable def boolOf (x : AV) (b : Bool) : Option Bool :=
  match x with
  | .bool c => some (Bool.rec (motive := fun _ => Bool) (!b) b c)
  | .un _ => none
  | _ => some false
/-- Whether an operation is wanted. -/
noncomputable def wntd (ops : Array Oper) (a : Tr AV) (g : Option (Nat × Bool)) : Option Bool :=
  Option.rec (motive := fun _ => Option Bool) (some true) (fun p => Option.rec (motive := fun _ => Option Bool) (some false) (fun t => Option.rec (motive := fun _ => Option Bool) none (fun x => boolOf x p.2) (a.get t)) ((ops[p.1]?).bind (·.dst))) g
/-- One operation. -/
noncomputable def stp (X : Mach) (ops : Array Oper) (o : Oper) (a : Tr AV) : M (Tr AV) :=
  need (wntd ops a o.guard) 10 fun b => Bool.rec (motive := fun _ => M (Tr AV)) (ret (pt a o.dst (.tup []))) (need (evls X.glob a o.op.operands.toList) 11 fun args => bnd (X.op o args) fun x => ret (pt a o.dst x)) b
theorem Loc.stp {X : Mach} (hX : ∀ o args, Loc (X.op o args)) (ops : Array Oper) (o : Oper) (a : Tr AV) : Loc (stp X ops o a) := by
  refine Loc.need _ _ fun b => ?_
  cases b
  · exact Loc.ret _
  · exact Loc.need _ _ fun args => Loc.bnd (hX o args) fun x => Loc.ret _
theorem mem_looks {ops : Array Oper} {o : Oper} {t : Tmp} (h : Operand.tmp t ∈ o.op.operands.toList) : t ∈ o.looksAt ops :=
  List.mem_append.2 (.inl (List.mem_filterMap.2 ⟨.tmp t, h, rfl⟩))
/-- By another frame that is the same where the operation looks. -/
theorem stp_frame {X : Mach} {ops : Array Oper} {o : Oper} {a b : Tr AV} (hb : ∀ t, t ∈ o.looksAt ops → b.get t = a.get t) {lo : Nat} {h : Heap} {c : Nat} {lg : List Ev} {a' : Tr AV} {h' : Heap} {c' : Nat} {lg' : List Ev}
    (e : stp X ops o a lo h c lg = .ok a' h' c' lg') : ∃ b', stp X ops o b lo h c lg = .ok b' h' c' lg' ∧ (∀ t, o.dst = some t → b'.get t = a'.get t) ∧ (∀ t, o.dst ≠ some t → b'.get t = b.get t ∧ a'.get t = a.get t) := by
  have hw : wntd ops b o.guard = wntd ops a o.guard := by
    unfold wntd
    cases hg : o.guard with
    | none => rfl
    | some p =>
      show Option.rec (motive := fun _ => Option Bool) (some false) (fun t => Option.rec (motive := fun _ => Option Bool) none (fun x => boolOf x p.2) (b.get t)) ((ops[p.1]?).bind (·.dst)) = Option.rec (motive := fun _ => Option Bool) (some false) (fun t => Option.rec (motive := fun _ => Option Bool) none (fun x => boolOf x p.2) (a.get t)) ((ops[p.1]?).bind (·.dst))
      cases ht : (ops[p.1]?).bind (·.dst) with
      | none => rfl
      | some t =>
        have : b.get t = a.get t := hb t (List.mem_append.2 (.inr (by rw [hg]; simp [ht])))
        dsimp only
        rw [this]
  have hv : evls X.glob b o.op.operands.toList = evls X.glob a o.op.operands.toList := evls_congr fun t ht => hb t (mem_looks ht)
  have fin : ∀ x, (∀ t, o.dst = some t → (pt b o.dst x).get t = (pt a o.dst x).get t) ∧ (∀ t, o.dst ≠ some t → (pt b o.dst x).get t = b.get t ∧ (pt a o.dst x).get t = a.get t) := fun x =>
    ⟨fun t ht => by rw [get_pt, get_pt, if_pos ht, if_pos ht], fun t ht => by rw [get_pt, get_pt, if_neg ht, if_neg ht]; exact ⟨rfl, rfl⟩⟩
  unfold stp at e ⊢
  rw [hw]
  cases hh : wntd ops a o.guard with
  | none => rw [hh] at e; cases e
  | some w =>
    rw [hh, need_some] at e
    rw [need_some]
    cases w with
    | false =>
      have e : ret (pt a o.dst (.tup [])) lo h c lg = .ok a' h' c' lg' := e
      injection e with e1 e2 e3 e4
      subst e1 e2 e3 e4
      exact ⟨pt b o.dst (.tup []), rfl, fin _⟩
    | true =>
      have e : need (evls X.glob a o.op.operands.toList) 11 (fun args => bnd (X.op o args) fun x => ret (pt a o.dst x)) lo h c lg = .ok a' h' c' lg' := e
      show ∃ b', need (evls X.glob b o.op.operands.toList) 11 (fun args => bnd (X.op o args) fun x => ret (pt b o.dst x)) lo h c lg = .ok b' h' c' lg' ∧ _
      rw [hv]
      cases hx : evls X.glob a o.op.operands.toList with
      | none => rw [hx] at e; cases e
      | some args =>
        rw [hx, need_some] at e
        rw [need_some]
        obtain ⟨x, h1, c1, lg1, e1, e2⟩ := bnd_ok e
        injection e2 with f1 f2 f3 f4
        subst f1 f2 f3 f4
        exact ⟨pt b o.dst x, by rw [bnd_run e1]; rfl, fin x⟩
/-- What an operation does is what the program's one does: in worlds from block B on. -/
def OpOK (P : Program) (B : Nat) (ρ0 : Pm) (X : Mach) (ops : Array Oper) (N : Nat) : Prop := ∀ i o, ops[i]? = some o → ∀ a lo h c lg a' h' c' lg', stp X ops o a lo h c lg = .ok a' h' c' lg' →
  ∀ (ρ : Pm) (act : Act) (w : World) (K : Act → World → Prop) (Q : Exit → Act → World → Prop), ρ0.le ρ → Rep B ρ h w → Frm ρ N a act → (∀ ρ' act' w', ρ.le ρ' → Rep B ρ' h' w' → Frm ρ' N a' act' → Below B w w' → K act' w') → wpOp P ops Q i K act w
/-- The operations, in the text's order. -/
noncomputable def runL (X : Mach) (ops : Array Oper) (l : List Oper) : Tr AV → M (Tr AV) :=
  List.rec (motive := fun _ => Tr AV → M (Tr AV)) (fun a => ret a) (fun o _ ih a => bnd (stp X ops o a) ih) l
theorem runL_nil (X : Mach) (ops : Array Oper) (a : Tr AV) : runL X ops [] a = ret a := rfl
theorem runL_cons (X : Mach) (ops : Array Oper) (o : Oper) (l : List Oper) (a : Tr AV) : runL X ops (o :: l) a = bnd (stp X ops o a) (runL X ops l) := rfl
theorem Loc.runL {X : Mach} (hX : ∀ o args, Loc (X.op o args)) (ops : Array Oper) : ∀ (l : List Oper) (a : Tr AV), Loc (runL X ops l a)
  | [], a => Loc.ret a
  | o :: l, a => Loc.bnd (Loc.stp hX ops o a) (Loc.runL hX ops l)
theorem runL_sound {P : Program} {B : Nat} {ρ0 : Pm} {X : Mach} {ops : Array Oper} {N : Nat} (hop : OpOK P B ρ0 X ops N) {Q : Exit → Act → World → Prop} : ∀ (l : List Oper) (i : Nat), ops.toList.drop i = l → ∀ a lo h c lg a' h' c' lg', runL X ops l a lo h c lg = .ok a' h' c' lg' →
    ∀ (ρ : Pm) (act : Act) (w : World), ρ0.le ρ → Rep B ρ h w → Frm ρ N a act → (∀ ρ' act' w', ρ.le ρ' → Rep B ρ' h' w' → Frm ρ' N a' act' → Below B w w' → Q .normal act' w') → wpOps P ops Q ((List.range ops.size).drop i) act w := by
  intro l
  induction l with
  | nil =>
    intro i hd a lo h c lg a' h' c' lg' e ρ act w hz hr hf hk
    have hi : ops.size ≤ i := by
      have := List.drop_eq_nil_iff.1 hd
      simpa using this
    rw [List.drop_eq_nil_of_le (by simpa using hi)]
    rw [runL_nil] at e
    injection e with e1 e2 e3 e4
    subst e1 e2 e3 e4
    exact hk ρ act w (Pm.le.refl ρ) hr hf (Below.refl _ _)
  | cons o l ih =>
    intro i hd a lo h c lg a' h' c' lg' e ρ act w hz hr hf hk
    have ho : ops.toList[i]? = some o := by
      have := congrArg (fun l => l[0]?) hd
      simpa using this
    have hi : i < ops.size := by
      have := (List.getElem?_eq_some_iff.1 ho).1
      simpa using this
    have ho' : ops[i]? = some o := by simpa using ho
    rw [runL_cons] at e
    obtain ⟨a1, h1, c1, lg1, e1, e2⟩ := bnd_ok e
    have hr2 : (List.range ops.size).drop i = i :: (List.range ops.size).drop (i + 1) := by
      rw [List.drop_eq_getElem_cons (by simpa using hi)]
      simp
    rw [hr2, wpOps_cons]
    refine hop i o ho' _ _ _ _ _ _ _ _ _ e1 ρ act w _ Q hz hr hf fun ρ' act' w' hle hr' hf' hb => ?_
    refine ih (i + 1) (by rw [← List.drop_drop, hd]; rfl) _ _ _ _ _ _ _ _ _ e2 ρ' act' w' (hz.trans hle) hr' hf' fun ρ'' act'' w'' hle2 hr2 hf2 hb2 => ?_
    exact hk ρ'' act'' w'' (hle.trans hle2) hr2 hf2 (hb.trans hb2)
end Go.Proofs.YtlpapdknggjfkaaGreatDoor

