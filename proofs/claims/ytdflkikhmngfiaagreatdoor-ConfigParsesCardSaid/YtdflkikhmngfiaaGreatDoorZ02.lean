/- EyD · EyE: joined by a program, for a claim has at most 60 files. -/
import Derived.Test.YtdflkikhmngfiaaGreatDoorZ01
import Derived.Orders
/- Any order that keeps what must come first ends alike. -/
namespace Go.Proofs.YtdflkikhmngfiaaGreatDoor
open Go.RowKit
set_option linter.unusedVariables false
set_option linter.unusedSimpArgs false
set_option linter.unusedSectionVars false
variable [Sy]

theorem last_or (P : Nat → Prop) : ∀ i, (∀ j, j < i → ¬ P j) ∨ ∃ j, j < i ∧ P j ∧ ∀ k, j < k → k < i → ¬ P k := by
  intro i
  induction i with
  | zero => exact .inl (fun j h => by omega)
  | succ i ih =>
    by_cases h : P i
    · exact .inr ⟨i, by omega, h, fun k h1 h2 => by omega⟩
    · rcases ih with ih | ⟨j, h1, h2, h3⟩
      · refine .inl fun j hj => ?_
        by_cases e : j = i
        · subst e; exact h
        · exact ih j (by omega)
      · refine .inr ⟨j, by omega, h2, fun k h4 h5 => ?_⟩
        by_cases e : k = i
        · subst e; exact h
        · exact h3 k h4 (by omega)
section inter
variable {Λ V : Type} {n : Nat} {v : Nat → Λ → V} {R W : Nat → Λ → Prop} {ord : Nat → Nat → Prop}
/-- What stands when the steps of D are done. -/
def InvD (n : Nat) (v : Nat → Λ → V) (W : Nat → Λ → Prop) (D : Nat → Prop) (u : Λ → V) : Prop := ∀ L, ((∀ j, j < n → D j → ¬ W j L) → u L = v 0 L) ∧ ∀ j, j < n → D j → W j L → (∀ k, j < k → k < n → D k → ¬ W k L) → u L = v (j + 1) L
theorem text_none (T : ∀ i, i < n → ∀ L, ¬ W i L → v (i + 1) L = v i L) {L : Λ} : ∀ i, i ≤ n → (∀ j, j < i → ¬ W j L) → v i L = v 0 L := by
  intro i
  induction i with
  | zero => intro _ _; rfl
  | succ i ih => intro hi h; rw [T i (by omega) L (h i (by omega))]; exact ih (by omega) (fun j hj => h j (by omega))
theorem text_last (T : ∀ i, i < n → ∀ L, ¬ W i L → v (i + 1) L = v i L) {L : Λ} {j : Nat} : ∀ i, j < i → i ≤ n → (∀ k, j < k → k < i → ¬ W k L) → v i L = v (j + 1) L := by
  intro i
  induction i with
  | zero => intro h _ _; omega
  | succ i ih =>
    intro h1 h2 h3
    by_cases e : j = i
    · subst e; rfl
    · rw [T i (by omega) L (h3 i (by omega) (by omega))]
      exact ih (by omega) (by omega) (fun k h4 h5 => h3 k h4 (by omega))
theorem inv_agree (T : ∀ i, i < n → ∀ L, ¬ W i L → v (i + 1) L = v i L) (con : ∀ j i, j < i → i < n → ¬ ord i j → ∀ L, (W j L → ¬ R i L ∧ ¬ W i L) ∧ (W i L → ¬ R j L)) {D : Nat → Prop} {u : Λ → V} (hD : InvD n v W D u)
    {i : Nat} (hi : i < n) (hni : ¬ D i) (hp : ∀ j, j < i → ord i j → D j) (hcl : ∀ k, k < n → D k → ∀ j, j < n → ord k j → D j) : ∀ L, R i L → u L = v i L := by
  intro L hR
  have hlate : ∀ k, i < k → k < n → D k → ¬ W k L := fun k h1 h2 h3 h4 => by
    by_cases ho : ord k i
    · exact hni (hcl k h2 h3 i hi ho)
    · exact (con i k h1 h2 ho L).2 h4 hR
  rcases last_or (fun j => W j L) i with h | ⟨j, h1, h2, h3⟩
  · rw [text_none T i (by omega) h]
    refine (hD L).1 fun j hj hd hw => ?_
    rcases Nat.lt_trichotomy j i with h4 | h4 | h4
    · exact h j h4 hw
    · subst h4; exact hni hd
    · exact hlate j h4 hj hd hw
  · rw [text_last T i h1 (by omega) h3]
    have hdj : D j := by
      by_cases ho : ord i j
      · exact hp j h1 ho
      · exact absurd hR ((con j i h1 hi ho L).1 h2).1
    refine (hD L).2 j (by omega) hdj h2 fun k h4 h5 h6 h7 => ?_
    rcases Nat.lt_trichotomy k i with h8 | h8 | h8
    · exact h3 k h4 h8 h7
    · subst h8; exact hni h6
    · exact hlate k h8 h5 h6 h7
theorem inv_step (con : ∀ j i, j < i → i < n → ¬ ord i j → ∀ L, (W j L → ¬ R i L ∧ ¬ W i L) ∧ (W i L → ¬ R j L)) {D D' : Nat → Prop} {u u' : Λ → V} (hD : InvD n v W D u)
    {i : Nat} (hi : i < n) (hni : ¬ D i) (hcl : ∀ k, k < n → D k → ∀ j, j < n → ord k j → D j) (hD' : ∀ j, j < n → (D' j ↔ D j ∨ j = i)) (h1 : ∀ L, W i L → u' L = v (i + 1) L) (h2 : ∀ L, ¬ W i L → u' L = u L) : InvD n v W D' u' := by
  intro L
  refine ⟨fun h => ?_, fun j hj hd hw h => ?_⟩
  · rw [h2 L (h i hi ((hD' i hi).2 (.inr rfl)))]
    exact (hD L).1 fun j hj hd => h j hj ((hD' j hj).2 (.inl hd))
  · rcases (hD' j hj).1 hd with hd | rfl
    · by_cases hwi : W i L
      · exfalso
        have hij : i < j := by
          rcases Nat.lt_trichotomy i j with h4 | h4 | h4
          · exact h4
          · subst h4; exact absurd hd hni
          · exact absurd hwi (h i h4 hi ((hD' i hi).2 (.inr rfl)))
        by_cases ho : ord j i
        · exact hni (hcl j hj hd i hi ho)
        · exact ((con i j hij hj ho L).1 hwi).2 hw
      · rw [h2 L hwi]
        exact (hD L).2 j hj hd hw fun k h4 h5 h6 => h k h4 h5 ((hD' k h5).2 (.inl h6))
    · exact h1 L hw
theorem inv_end (T : ∀ i, i < n → ∀ L, ¬ W i L → v (i + 1) L = v i L) {D : Nat → Prop} {u : Λ → V} (hD : InvD n v W D u) (hall : ∀ j, j < n → D j) : ∀ L, u L = v n L := by
  intro L
  rcases last_or (fun j => W j L) n with h | ⟨j, h1, h2, h3⟩
  · rw [text_none T n (Nat.le_refl _) h]
    exact (hD L).1 fun j hj _ => h j hj
  · rw [text_last T n h1 (Nat.le_refl _) h3]
    exact (hD L).2 j h1 (hall j h1) h2 fun k h4 h5 _ => h3 k h4 h5
theorem inv_start {D : Nat → Prop} (hnone : ∀ j, j < n → ¬ D j) : InvD n v W D (v 0) := fun L => ⟨fun _ => rfl, fun j hj hd => absurd hd (hnone j hj)⟩
end inter

/-- What must come ahead of an operation: numbers as bits. -/
noncomputable def edges (acc : Tr Nat) (es : List Edge) : Nat :=
  List.rec (motive := fun _ => Nat) 0 (fun e _ m => Bool.rec (motive := fun _ => Nat) m (Nat.lor (Nat.lor m (2 ^ e.on)) (Option.rec (motive := fun _ => Nat) 0 (fun x => x) (acc.get e.on))) (Region.binds .any e)) es
noncomputable def masks (l : List Oper) : Nat → Tr Nat → Tr Nat :=
  List.rec (motive := fun _ => Nat → Tr Nat → Tr Nat) (fun _ acc => acc) (fun o _ ih i acc => ih (i + 1) (acc.set i (edges acc o.after.toList))) l
theorem masks_nil (i : Nat) (acc : Tr Nat) : masks [] i acc = acc := rfl
theorem masks_cons (o : Oper) (l : List Oper) (i : Nat) (acc : Tr Nat) : masks (o :: l) i acc = masks l (i + 1) (acc.set i (edges acc o.after.toList)) := rfl
theorem edges_bit {acc : Tr Nat} {D : Nat → Prop} : ∀ {es : List Edge} {j : Nat}, (edges acc es).testBit j = true → (∀ e ∈ es, Region.binds .any e = true → D e.on ∧ ∀ m, acc.get e.on = some m → ∀ k, m.testBit k = true → D k) → D j := by
  intro es
  induction es with
  | nil => intro j h _; simp [edges] at h
  | cons e es ih =>
    intro j h hD
    have hrec : edges acc (e :: es) = Bool.rec (motive := fun _ => Nat) (edges acc es) (Nat.lor (Nat.lor (edges acc es) (2 ^ e.on)) (Option.rec (motive := fun _ => Nat) 0 (fun x => x) (acc.get e.on))) (Region.binds .any e) := rfl
    rw [hrec] at h
    cases hb : Region.binds .any e with
    | false =>
      rw [hb] at h
      exact ih h (fun x hx => hD x (by simp [hx]))
    | true =>
      rw [hb] at h
      obtain ⟨d1, d2⟩ := hD e (by simp) hb
      have h : (Nat.lor (Nat.lor (edges acc es) (2 ^ e.on)) (Option.rec (motive := fun _ => Nat) 0 (fun x => x) (acc.get e.on))).testBit j = true := h
      change (((edges acc es) ||| (2 ^ e.on)) ||| _).testBit j = true at h
      rw [Nat.testBit_or, Nat.testBit_or, Bool.or_eq_true, Bool.or_eq_true] at h
      rcases h with (h | h) | h
      · exact ih h (fun x hx => hD x (by simp [hx]))
      · rw [Nat.testBit_two_pow] at h
        have : e.on = j := by simpa using h
        exact this ▸ d1
      · cases hg : acc.get e.on with
        | none => rw [hg] at h; simp at h
        | some m => rw [hg] at h; exact d2 m hg j h
/-- What stands in the row of numbers is behind the direct edges. -/
theorem masks_spec {ops : List Oper} : ∀ (l : List Oper) (i : Nat) (acc : Tr Nat), ops.drop i = l → (∀ k m, acc.get k = some m → k < i ∧ ∀ D : Nat → Prop, (∀ x o, ops[x]? = some o → D x → ∀ e ∈ o.after.toList, Region.binds .any e = true → D e.on) → D k → ∀ j, m.testBit j = true → D j) →
    ∀ k m, (masks l i acc).get k = some m → ∀ D : Nat → Prop, (∀ x o, ops[x]? = some o → D x → ∀ e ∈ o.after.toList, Region.binds .any e = true → D e.on) → D k → ∀ j, m.testBit j = true → D j := by
  intro l
  induction l with
  | nil => intro i acc _ h k m hk; rw [masks_nil] at hk; exact (h k m hk).2
  | cons o l ih =>
    intro i acc hd h
    rw [masks_cons]
    have ho : ops[i]? = some o := by
      have := congrArg (fun l => l[0]?) hd
      simpa using this
    refine ih (i + 1) _ (by rw [← List.drop_drop, hd]; rfl) fun k m hk => ?_
    rw [Tr.get_set] at hk
    by_cases e : k = i
    · rw [if_pos e] at hk
      injection hk with hk
      subst hk
      refine ⟨by omega, fun D hcl hDk j hj => edges_bit (D := D) hj fun x hx hb => ?_⟩
      have d1 := hcl k o (e ▸ ho) hDk x hx hb
      exact ⟨d1, fun m hm k2 hk2 => (h _ m hm).2 D hcl d1 k2 hk2⟩
    · rw [if_neg e] at hk
      exact ⟨by have := (h k m hk).1; omega, (h k m hk).2⟩
end Go.Proofs.YtdflkikhmngfiaaGreatDoor


/- A region's operations: in the text's order, and in any. -/
namespace Go.Proofs.YtdflkikhmngfiaaGreatDoor
open Go.RowKit
set_option linter.unusedVariables false
set_option linter.unusedSimpArgs false
set_option linter.unusedSectionVars false
variable [Sy] [Dc]

/-- A value of one cell that is written in the code. -/
def cellV : Value → Option AV
  | .bool b => some (.bool b)
  | .int k n => some (.int k n)
  | .string s => some (.str (s.data.toList.map UInt8.toNat))
  | .pointer none => some .nilp
  | .slice none 0 0 => some .nils
  | .map none => some .nilm
  | .nilFunc => some .nilf
  | .nilIface => some .nili
  | _ => none
def cellVs : List Value → Option (List AV)
  | [] => some []
  | v :: l => match cellV v, cellVs l with
    | some x, some m => some (x :: m)
    | _, _ => none
def ofV : Value → Option AV
  | .agg a => (cellVs a.toList).map .agg
  | .tuple a => (cellVs a.toList).map .tup
  | v => cellV v
theorem toNat_ofNat_list : ∀ l : List UInt8, (l.map UInt8.toNat).map UInt8.ofNat = l
  | [] => rfl
  | x :: l => by simp [toNat_ofNat_list l]
theorem cellV_rp {ρ : Pm} {v : Value} {x : AV} (h : cellV v = some x) : x.rp ρ v := by
  unfold cellV at h
  split at h
  all_goals first
    | (injection h with h; subst h; simp only [AV.rp]; done)
    | skip
  · injection h with h
    subst h
    rename_i s
    simp only [AV.rp]
    refine ⟨fun b hb => ?_, ?_⟩
    · obtain ⟨u, _, rfl⟩ := List.mem_map.1 hb
      exact u.toNat_lt
    · unfold bytesOf
      rw [toNat_ofNat_list]
  · cases h
theorem cellVs_rp {ρ : Pm} : ∀ {l : List Value} {m : List AV}, cellVs l = some m → AV.rps ρ m l
  | [], m, h => by simp [cellVs] at h; subst h; exact rps_nil.2 rfl
  | v :: l, m, h => by
    unfold cellVs at h
    split at h
    · rename_i x m2 h1 h2
      injection h with h
      subst h
      exact rps_cons.2 ⟨v, l, rfl, cellV_rp h1, cellVs_rp h2⟩
    · cases h
theorem ofV_rp {ρ : Pm} {v : Value} {x : AV} (h : ofV v = some x) : x.rp ρ v := by
  unfold ofV at h
  split at h
  · rename_i a
    cases hm : cellVs a.toList with
    | none => rw [hm] at h; cases h
    | some m =>
      rw [hm] at h
      injection h with h
      subst h
      simp only [AV.rp]
      exact ⟨a, rfl, cellVs_rp hm⟩
  · rename_i a
    cases hm : cellVs a.toList with
    | none => rw [hm] at h; cases h
    | some m =>
      rw [hm] at h
      injection h with h
      subst h
      simp only [AV.rp]
      exact ⟨a, rfl, cellVs_rp hm⟩
  · exact cellV_rp h
abbrev Frame' := Tr AV
/-- The machine's frame tells of a frame of N slots. -/
structure Frm (D : List Deferred) (ρ : Pm) (N : Nat) (a : Tr AV) (act : Act) : Prop where
  defers : act.defers = D
  size : act.tmps.size = N
  slot : ∀ t x, a.get t = some x → ∃ v, act.tmps[t]? = some v ∧ x.rp ρ v
theorem Frm.mono {D : List Deferred} {ρ ρ' : Pm} {N : Nat} {a : Tr AV} {act : Act} (h : Frm D ρ N a act) (hr : ρ.le ρ') : Frm D ρ' N a act :=
  ⟨h.defers, h.size, fun t x hx => let ⟨v, h1, h2⟩ := h.slot t x hx; ⟨v, h1, h2.mono hr⟩⟩
theorem Frm.same {D : List Deferred} {ρ : Pm} {N : Nat} {a b : Tr AV} {act : Act} (h : Frm D ρ N a act) (hb : ∀ t, b.get t = a.get t) : Frm D ρ N b act :=
  ⟨h.defers, h.size, fun t x hx => h.slot t x ((hb t).symm.trans hx)⟩
noncomputable def pt (a : Tr AV) (d : Option Tmp) (x : AV) : Tr AV := Option.rec (motive := fun _ => Tr AV) a (fun d => a.set d x) d
theorem get_pt (a : Tr AV) (d : Option Tmp) (x : AV) (t : Nat) : (pt a d x).get t = if d = some t then some x else a.get t := by
  cases d with
  | none => rw [if_neg (by simp)]; rfl
  | some d =>
    show (a.set d x).get t = _
    rw [Tr.get_set]
    by_cases h : t = d
    · rw [if_pos h, if_pos (by rw [h])]
    · rw [if_neg h, if_neg (by simpa using fun e => h e.symm)]
theorem Frm.put {D : List Deferred} {ρ : Pm} {N : Nat} {a : Tr AV} {act : Act} (h : Frm D ρ N a act) {d : Option Tmp} (hd : ∀ t, d = some t → t < N) {x : AV} {v : Value} (hx : x.rp ρ v) : Frm D ρ N (pt a d x) (act.put d v) := by
  cases d with
  | none => exact h
  | some d =>
    refine ⟨h.defers, by simp [Act.put, h.size], fun t y hy => ?_⟩
    rw [get_pt] at hy
    have hdN := hd d rfl
    by_cases e : some d = some t
    · rw [if_pos e] at hy
      injection e with e
      injection hy with hy
      subst e hy
      refine ⟨v, ?_, hx⟩
      show (act.tmps.setIfInBounds d v)[d]? = _
      rw [Array.getElem?_setIfInBounds, if_pos rfl, if_pos (by rw [h.size]; exact hdN)]
    · rw [if_neg e] at hy
      obtain ⟨u, h1, h2⟩ := h.slot t y hy
      refine ⟨u, ?_, h2⟩
      show (act.tmps.setIfInBounds d v)[t]? = _
      rw [Array.getElem?_setIfInBounds, if_neg (by simpa using e)]
      exact h1
/-- A machine's way with operations: what a program's variables are, and what an operation of these values does. -/
structure Mach where
  glob : Nat → Option AV
  op : Oper → List AV → M AV
/-- A truth value that is decided. -/
noncomputable def nrm (x : AV) : AV :=
  match x with
  | .sx .bool e => Option.rec (motive := fun _ => AV) (.sx .bool e) (fun b => .bool b) (Dc.dec e)
  | x => x
theorem nrm_rp [DcOK] {ρ : Pm} {x : AV} {v : Value} (h : x.rp ρ v) : (nrm x).rp ρ v := by
  unfold nrm
  split
  · rename_i e
    cases hd : Dc.dec e with
    | none => exact h
    | some b =>
      simp only [AV.rp, Sh.rp] at h
      show (AV.bool b).rp ρ v
      simp only [AV.rp]
      rw [h, DcOK.ok e b hd]
      rfl
  · exact h
noncomputable def nrmO (o : Option AV) : Option AV := Option.rec (motive := fun _ => Option AV) none (fun x => some (nrm x)) o
noncomputable def evl (G : Nat → Option AV) (a : Tr AV) : Operand → Option AV
  | .tmp t => nrmO (a.get t)
  | .const v => ofV v
  | .global g => G g
  | .func f => some (.func (.func f) [] [])
noncomputable def evls (G : Nat → Option AV) (a : Tr AV) (l : List Operand) : Option (List AV) :=
  List.rec (motive := fun _ => Option (List AV)) (some []) (fun o _ ih => Option.rec (motive := fun _ => Option (List AV)) none (fun x => Option.rec (motive := fun _ => Option (List AV)) none (fun m => some (x :: m)) ih) (evl G a o)) l
theorem evls_cons {G : Nat → Option AV} {a : Tr AV} {o : Operand} {l : List Operand} {m : List AV} (h : evls G a (o :: l) = some m) : ∃ x m', m = x :: m' ∧ evl G a o = some x ∧ evls G a l = some m' := by
  have e : evls G a (o :: l) = Option.rec (motive := fun _ => Option (List AV)) none (fun x => Option.rec (motive := fun _ => Option (List AV)) none (fun m => some (x :: m)) (evls G a l)) (evl G a o) := rfl
  rw [e] at h
  cases h1 : evl G a o with
  | none => rw [h1] at h; cases h
  | some x =>
    rw [h1] at h
    cases h2 : evls G a l with
    | none => rw [h2] at h; cases h
    | some m' => rw [h2] at h; injection h with h; exact ⟨x, m', h.symm, rfl, rfl⟩
theorem evls_congr {G : Nat → Option AV} {a b : Tr AV} : ∀ {l : List Operand}, (∀ t, Operand.tmp t ∈ l → b.get t = a.get t) → evls G b l = evls G a l
  | [], _ => rfl
  | o :: l, h => by
    have e : ∀ a, evls G a (o :: l) = Option.rec (motive := fun _ => Option (List AV)) none (fun x => Option.rec (motive := fun _ => Option (List AV)) none (fun m => some (x :: m)) (evls G a l)) (evl G a o) := fun _ => rfl
    rw [e, e, evls_congr (fun t ht => h t (by simp [ht]))]
    have : evl G b o = evl G a o := by
      cases o with
      | tmp t => exact congrArg nrmO (h t (by simp))
      | _ => rfl
    rw [this]
noncomputable def boolOf (x : AV) (b : Bool) : Option Bool :=
  match x with
  | .bool c => some (Bool.rec (motive := fun _ => Bool) (!b) b c)
  | .sx _ _ => none
  | _ => some false
/-- Whether an operation is wanted. -/
noncomputable def wntd (ops : Array Oper) (a : Tr AV) (g : Option (Nat × Bool)) : Option Bool :=
  Option.rec (motive := fun _ => Option Bool) (some true) (fun p => Option.rec (motive := fun _ => Option Bool) (some false) (fun t => Option.rec (motive := fun _ => Option Bool) none (fun x => boolOf (nrm x) p.2) (a.get t)) ((ops[p.1]?).bind (·.dst))) g
/-- An expression as numbers, in front of others. -/
def opN : BinOp → Nat
  | .add => 0 | .sub => 1 | .mul => 2 | .quo => 3 | .rem => 4 | .and => 5 | .or => 6 | .xor => 7 | .andNot => 8 | .shl => 9 | .shr => 10
  | .eql => 11 | .neq => 12 | .lss => 13 | .leq => 14 | .gtr => 15 | .geq => 16
def kdN : IntKind → Nat
  | .i8 => 0 | .i16 => 1 | .i32 => 2 | .i64 => 3 | .u8 => 4 | .u16 => 5 | .u32 => 6 | .u64 => 7
def encL (l : List Nat) (r : List Nat) : List Nat := l.length :: (l ++ r)
def encI (n : Int) (r : List Nat) : List Nat := match n with
  | .ofNat n => 0 :: n :: r
  | .negSucc n => 1 :: n :: r
def Xp.enc : Xp → List Nat → List Nat
  | .var i, r => 0 :: i :: r
  | .int n, r => 1 :: encI n r
  | .bool b, r => 2 :: (match b with | true => 1 | false => 0) :: r
  | .str l, r => 3 :: encL l r
  | .bin op k a b, r => 4 :: opN op :: kdN k :: a.enc (b.enc r)
  | .wrap k a, r => 5 :: kdN k :: a.enc r
  | .cmpi op a b, r => 6 :: opN op :: a.enc (b.enc r)
  | .eqs a b, r => 7 :: a.enc (b.enc r)
  | .eqb a b, r => 8 :: a.enc (b.enc r)
  | .not a, r => 9 :: a.enc r
  | .cat a b, r => 10 :: a.enc (b.enc r)
  | .lens a, r => 11 :: a.enc r
  | .lenl a, r => 12 :: a.enc r
  | .at a i, r => 13 :: a.enc (i.enc r)
  | .subs a l h, r => 14 :: a.enc (l.enc (h.enc r))
  | .subl a l h, r => 15 :: a.enc (l.enc (h.enc r))
  | .inb i n, r => 16 :: i.enc (n.enc r)
  | .rng l h n, r => 17 :: l.enc (h.enc (n.enc r))
  | .get a i z j, r => 18 :: z :: j :: a.enc (i.enc r)
  | .cell a j, r => 19 :: j :: a.enc r
  | .app f a, r => 20 :: f :: a.enc r
  | .nil, r => 21 :: r
  | .cons a b, r => 22 :: a.enc (b.enc r)
  | .lnil, r => 23 :: r
  | .snoc a b, r => 24 :: a.enc (b.enc r)
  | .catl a b, r => 27 :: a.enc (b.enc r)
  | .ofB a, r => 25 :: a.enc r
  | .toB a, r => 26 :: a.enc r
/-- Why it is not known whether an operation is wanted. -/
def askG (x : Option AV) : List Nat := match x with
  | some (.sx .bool e) => 88 :: e.enc []
  | _ => [10]
noncomputable def needL {α β : Type} (o : Option α) (why : List Nat) (g : α → M β) : M β := Option.rec (motive := fun _ => M β) (fail why) g o
theorem needL_some {α β : Type} (x : α) (why : List Nat) (g : α → M β) : needL (some x) why g = g x := rfl
theorem Loc.needL {α β : Type} {g : α → M β} (o : Option α) (why : List Nat) (hg : ∀ a, Loc (g a)) : Loc (needL o why g) := by
  cases o with
  | none => exact Loc.fail _
  | some x => exact hg x
/-- One operation. -/
noncomputable def stp (X : Mach) (ops : Array Oper) (o : Oper) (a : Tr AV) : M (Tr AV) :=
  needL (wntd ops a o.guard) (askG ((o.guard.bind fun p => (ops[p.1]?).bind (·.dst)).bind a.get)) fun b => Bool.rec (motive := fun _ => M (Tr AV)) (ret (pt a o.dst (.tup []))) (need (evls X.glob a o.op.operands.toList) 11 fun args => bnd (X.op o args) fun x => ret (pt a o.dst x)) b
theorem Loc.stp {X : Mach} (hX : ∀ o args, Loc (X.op o args)) (ops : Array Oper) (o : Oper) (a : Tr AV) : Loc (stp X ops o a) := by
  refine Loc.needL _ _ fun b => ?_
  cases b
  · exact Loc.ret _
  · exact Loc.need _ _ fun args => Loc.bnd (hX o args) fun x => Loc.ret _
theorem mem_looks {ops : Array Oper} {o : Oper} {t : Tmp} (h : Operand.tmp t ∈ o.op.operands.toList) : t ∈ o.looksAt ops :=
  List.mem_append.2 (.inl (List.mem_filterMap.2 ⟨.tmp t, h, rfl⟩))
/-- By another frame that is the same where the operation looks. -/
theorem stp_frame {X : Mach} {ops : Array Oper} {o : Oper} {a b : Tr AV} (hb : ∀ t, t ∈ o.looksAt ops → b.get t = a.get t) {lo : Nat} {h : Heap} {c : Nat} {lg : List Ev} {a' : Tr AV} {h' : Heap} {c' : Nat} {lg' : List Ev}
    (e : stp X ops o a lo h c lg = .ok a' h' c' lg') : ∃ b', stp X ops o b lo h c lg = .ok b' h' c' lg' ∧ (∀ t, o.dst = some t → b'.get t = a'.get t) ∧ (∀ t, o.dst ≠ some t → b'.get t = b.get t ∧ a'.get t = a.get t) := by
  have hw : wntd ops b o.guard = wntd ops a o.guard := by
    unfold wntd
    cases hg : o.guard with
    | none => rfl
    | some p =>
      show Option.rec (motive := fun _ => Option Bool) (some false) (fun t => Option.rec (motive := fun _ => Option Bool) none (fun x => boolOf (nrm x) p.2) (b.get t)) ((ops[p.1]?).bind (·.dst)) = Option.rec (motive := fun _ => Option Bool) (some false) (fun t => Option.rec (motive := fun _ => Option Bool) none (fun x => boolOf (nrm x) p.2) (a.get t)) ((ops[p.1]?).bind (·.dst))
      cases ht : (ops[p.1]?).bind (·.dst) with
      | none => rfl
      | some t =>
        have : b.get t = a.get t := hb t (List.mem_append.2 (.inr (by rw [hg]; simp [ht])))
        dsimp only
        rw [this]
  have hv : evls X.glob b o.op.operands.toList = evls X.glob a o.op.operands.toList := evls_congr fun t ht => hb t (mem_looks ht)
  have fin : ∀ x, (∀ t, o.dst = some t → (pt b o.dst x).get t = (pt a o.dst x).get t) ∧ (∀ t, o.dst ≠ some t → (pt b o.dst x).get t = b.get t ∧ (pt a o.dst x).get t = a.get t) := fun x =>
    ⟨fun t ht => by rw [get_pt, get_pt, if_pos ht, if_pos ht], fun t ht => by rw [get_pt, get_pt, if_neg ht, if_neg ht]; exact ⟨rfl, rfl⟩⟩
  unfold stp at e ⊢
  rw [hw]
  cases hh : wntd ops a o.guard with
  | none => rw [hh] at e; cases e
  | some w =>
    rw [hh, needL_some] at e
    rw [needL_some]
    cases w with
    | false =>
      have e : ret (pt a o.dst (.tup [])) lo h c lg = .ok a' h' c' lg' := e
      injection e with e1 e2 e3 e4
      subst e1 e2 e3 e4
      exact ⟨pt b o.dst (.tup []), rfl, fin _⟩
    | true =>
      have e : need (evls X.glob a o.op.operands.toList) 11 (fun args => bnd (X.op o args) fun x => ret (pt a o.dst x)) lo h c lg = .ok a' h' c' lg' := e
      show ∃ b', need (evls X.glob b o.op.operands.toList) 11 (fun args => bnd (X.op o args) fun x => ret (pt b o.dst x)) lo h c lg = .ok b' h' c' lg' ∧ _
      rw [hv]
      cases hx : evls X.glob a o.op.operands.toList with
      | none => rw [hx] at e; cases e
      | some args =>
        rw [hx, need_some] at e
        rw [need_some]
        obtain ⟨x, h1, c1, lg1, e1, e2⟩ := bnd_ok e
        injection e2 with f1 f2 f3 f4
        subst f1 f2 f3 f4
        exact ⟨pt b o.dst x, by rw [bnd_run e1]; rfl, fin x⟩
/-- What an operation does is what the program's one does: in worlds from block B on. -/
def OpOK (P : Program) (B : Nat) (ρ0 : Pm) (X : Mach) (ops : Array Oper) (N : Nat) : Prop := ∀ i o, ops[i]? = some o → ∀ a lo h c lg a' h' c' lg', stp X ops o a lo h c lg = .ok a' h' c' lg' →
  ∀ (D : List Deferred) (ρ : Pm) (act : Act) (w : World) (K : Act → World → Prop) (Q : Exit → Act → World → Prop), ρ0.le ρ → Rep B ρ h w → Frm D ρ N a act → (∀ ρ' act' w', ρ.le ρ' → Rep B ρ' h' w' → Frm D ρ' N a' act' → Below B w w' → K act' w') → wpOp P ops Q i K act w
/-- The operations, in the text's order. -/
noncomputable def runL (X : Mach) (ops : Array Oper) (l : List Oper) : Tr AV → M (Tr AV) :=
  List.rec (motive := fun _ => Tr AV → M (Tr AV)) (fun a => ret a) (fun o _ ih a => bnd (stp X ops o a) ih) l
theorem runL_nil (X : Mach) (ops : Array Oper) (a : Tr AV) : runL X ops [] a = ret a := rfl
theorem runL_cons (X : Mach) (ops : Array Oper) (o : Oper) (l : List Oper) (a : Tr AV) : runL X ops (o :: l) a = bnd (stp X ops o a) (runL X ops l) := rfl
theorem Loc.runL {X : Mach} (hX : ∀ o args, Loc (X.op o args)) (ops : Array Oper) : ∀ (l : List Oper) (a : Tr AV), Loc (runL X ops l a)
  | [], a => Loc.ret a
  | o :: l, a => Loc.bnd (Loc.stp hX ops o a) (Loc.runL hX ops l)
theorem runL_sound {D : List Deferred} {P : Program} {B : Nat} {ρ0 : Pm} {X : Mach} {ops : Array Oper} {N : Nat} (hop : OpOK P B ρ0 X ops N) {Q : Exit → Act → World → Prop} : ∀ (l : List Oper) (i : Nat), ops.toList.drop i = l → ∀ a lo h c lg a' h' c' lg', runL X ops l a lo h c lg = .ok a' h' c' lg' →
    ∀ (ρ : Pm) (act : Act) (w : World), ρ0.le ρ → Rep B ρ h w → Frm D ρ N a act → (∀ ρ' act' w', ρ.le ρ' → Rep B ρ' h' w' → Frm D ρ' N a' act' → Below B w w' → Q .normal act' w') → wpOps P ops Q ((List.range ops.size).drop i) act w := by
  intro l
  induction l with
  | nil =>
    intro i hd a lo h c lg a' h' c' lg' e ρ act w hz hr hf hk
    have hi : ops.size ≤ i := by
      have := List.drop_eq_nil_iff.1 hd
      simpa using this
    rw [List.drop_eq_nil_of_le (by simpa using hi)]
    rw [runL_nil] at e
    injection e with e1 e2 e3 e4
    subst e1 e2 e3 e4
    exact hk ρ act w (Pm.le.refl ρ) hr hf (Below.refl _ _)
  | cons o l ih =>
    intro i hd a lo h c lg a' h' c' lg' e ρ act w hz hr hf hk
    have ho : ops.toList[i]? = some o := by
      have := congrArg (fun l => l[0]?) hd
      simpa using this
    have hi : i < ops.size := by
      have := (List.getElem?_eq_some_iff.1 ho).1
      simpa using this
    have ho' : ops[i]? = some o := by simpa using ho
    rw [runL_cons] at e
    obtain ⟨a1, h1, c1, lg1, e1, e2⟩ := bnd_ok e
    have hr2 : (List.range ops.size).drop i = i :: (List.range ops.size).drop (i + 1) := by
      rw [List.drop_eq_getElem_cons (by simpa using hi)]
      simp
    rw [hr2, wpOps_cons]
    refine hop i o ho' _ _ _ _ _ _ _ _ _ e1 D ρ act w _ Q hz hr hf fun ρ' act' w' hle hr' hf' hb => ?_
    refine ih (i + 1) (by rw [← List.drop_drop, hd]; rfl) _ _ _ _ _ _ _ _ _ e2 ρ' act' w' (hz.trans hle) hr' hf' fun ρ'' act'' w'' hle2 hr2 hf2 hb2 => ?_
    exact hk ρ'' act'' w'' (hle.trans hle2) hr2 hf2 (hb.trans hb2)
end Go.Proofs.YtdflkikhmngfiaaGreatDoor

