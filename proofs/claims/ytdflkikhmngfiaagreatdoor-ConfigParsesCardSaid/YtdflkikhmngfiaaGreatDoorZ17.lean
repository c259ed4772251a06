/- Operations on what is not known: what they come to. -/
import Derived.Test.YtdflkikhmngfiaaGreatDoorZ16
namespace Go.Proofs.YtdflkikhmngfiaaGreatDoor
open Go.RowKit
set_option linter.unusedVariables false
set_option linter.unusedSimpArgs false
set_option linter.unusedSectionVars false
variable [Sy] [Dc] [DcOK]

noncomputable def asks (e : Xp) (k : Bool → Tb) : Tb := Option.rec (motive := fun _ => Tb) (.ask (e.enc [])) k (Dc.dec e)
noncomputable def must (e : Xp) (k : Tb) : Tb := Option.rec (motive := fun _ => Tb) (.ask (e.enc [])) (fun b => Bool.rec (motive := fun _ => Tb) .no k b) (Dc.dec e)
noncomputable def optT {α : Type} (o : Option α) (k : α → Tb) : Tb := Option.rec (motive := fun _ => Tb) .no k o
noncomputable def iffT (b : Bool) (k : Tb) : Tb := Bool.rec (motive := fun _ => Tb) .no k b
theorem asks_val {e : Xp} {k : Bool → Tb} {x : AV} (h : asks e k = .val x) : ∃ b, e.den = .bool b ∧ k b = .val x := by
  unfold asks at h
  cases hd : Dc.dec e with
  | none => rw [hd] at h; cases h
  | some b => rw [hd] at h; exact ⟨b, DcOK.ok e b hd, h⟩
theorem must_val {e : Xp} {k : Tb} {x : AV} (h : must e k = .val x) : e.den = .bool true ∧ k = .val x := by
  unfold must at h
  cases hd : Dc.dec e with
  | none => rw [hd] at h; cases h
  | some b =>
    rw [hd] at h
    cases b with
    | false => cases h
    | true => exact ⟨DcOK.ok e true hd, h⟩
theorem optT_val {α : Type} {o : Option α} {k : α → Tb} {x : AV} (h : optT o k = .val x) : ∃ a, o = some a ∧ k a = .val x := by
  cases o with
  | none => cases h
  | some a => exact ⟨a, rfl, h⟩
theorem iffT_val {b : Bool} {k : Tb} {x : AV} (h : iffT b k = .val x) : b = true ∧ k = .val x := by
  cases b with
  | false => cases h
  | true => exact ⟨rfl, h⟩
def litNz (y : AV) : Bool := match y with
  | .int _ (.ofNat (.succ _)) => true
  | .int _ (.negSucc _) => true
  | _ => false
def litNat (y : AV) : Bool := match y with
  | .int _ (.ofNat _) => true
  | _ => false
noncomputable def askB (e : Xp) (k : Bool → Tb) : Tb := match e with
  | .bool b => k b
  | e => asks e k
theorem askB_val {e : Xp} {k : Bool → Tb} {x : AV} (h : askB e k = .val x) : ∃ b, e.den = .bool b ∧ k b = .val x := by
  unfold askB at h
  split at h
  · exact ⟨_, rfl, h⟩
  · exact asks_val h
noncomputable def symInt (op : BinOp) (p q : IntKind × Xp) (y : AV) : Tb :=
  match op with
  | .add => iffT (decide (p.1 = q.1)) (.val (.sx (.int p.1) (.bin .add p.1 p.2 q.2)))
  | .sub => iffT (decide (p.1 = q.1)) (.val (.sx (.int p.1) (.bin .sub p.1 p.2 q.2)))
  | .mul => iffT (decide (p.1 = q.1)) (.val (.sx (.int p.1) (.bin .mul p.1 p.2 q.2)))
  | .and => iffT (decide (p.1 = q.1)) (.val (.sx (.int p.1) (.bin .and p.1 p.2 q.2)))
  | .or => iffT (decide (p.1 = q.1)) (.val (.sx (.int p.1) (.bin .or p.1 p.2 q.2)))
  | .xor => iffT (decide (p.1 = q.1)) (.val (.sx (.int p.1) (.bin .xor p.1 p.2 q.2)))
  | .andNot => iffT (decide (p.1 = q.1)) (.val (.sx (.int p.1) (.bin .andNot p.1 p.2 q.2)))
  | .quo => iffT (litNz y && decide (p.1 = q.1)) (.val (.sx (.int p.1) (.bin .quo p.1 p.2 q.2)))
  | .rem => iffT (litNz y && decide (p.1 = q.1)) (.val (.sx (.int p.1) (.bin .rem p.1 p.2 q.2)))
  | .shl => iffT (litNat y) (.val (.sx (.int p.1) (.bin .shl p.1 p.2 q.2)))
  | .shr => iffT (litNat y) (.val (.sx (.int p.1) (.bin .shr p.1 p.2 q.2)))
  | .eql => iffT (decide (p.1 = q.1)) (bif eqX p.2 q.2 then .val (.bool true) else asks (.cmpi .eql p.2 q.2) fun r => .val (.bool r))
  | .neq => iffT (decide (p.1 = q.1)) (bif eqX p.2 q.2 then .val (.bool false) else asks (.cmpi .eql p.2 q.2) fun r => .val (.bool (!r)))
  | .lss => iffT (decide (p.1 = q.1)) (asks (.cmpi .lss p.2 q.2) fun r => .val (.bool r))
  | .geq => iffT (decide (p.1 = q.1)) (asks (.cmpi .lss p.2 q.2) fun r => .val (.bool (!r)))
  | .gtr => iffT (decide (p.1 = q.1)) (asks (.cmpi .lss q.2 p.2) fun r => .val (.bool r))
  | .leq => iffT (decide (p.1 = q.1)) (asks (.cmpi .lss q.2 p.2) fun r => .val (.bool (!r)))
noncomputable def symStr (op : BinOp) (p q : Xp) : Tb :=
  match op with
  | .add => must (.rng (.int 0) (.lens (.cat p q)) (.int 1000000000)) (.val (.sx .str (.cat p q)))
  | .eql => bif eqX p q then .val (.bool true) else asks (.eqs p q) fun r => .val (.bool r)
  | .neq => bif eqX p q then .val (.bool false) else asks (.eqs p q) fun r => .val (.bool (!r))
  | _ => .no
noncomputable def symBool (op : BinOp) (p q : Xp) : Tb :=
  match op with
  | .eql => bif eqX p q then .val (.bool true) else askB p fun a => askB q fun b => .val (.bool (a == b))
  | .neq => bif eqX p q then .val (.bool false) else askB p fun a => askB q fun b => .val (.bool (!(a == b)))
  | _ => .no
noncomputable def symBin (P : Program) (op : BinOp) (t : TypeId) (x y : AV) : Tb :=
  match xi x, xi y with
  | some p, some q => symInt op p q y
  | _, _ => match xs x, xs y with
    | some p, some q => symStr op p q
    | _, _ => match xb x, xb y with
      | some p, some q => optT (P.underlying t) fun d => match d with
        | .bool => symBool op p q
        | _ => .no
      | _, _ => .no
noncomputable def symConv (P : Program) (s d : TypeId) (x : AV) : Tb :=
  optT (P.underlying s) fun us => optT (P.underlying d) fun ud =>
  match ud with
  | .int k => optT (xi x) fun p => .val (.sx (.int k) (.wrap k p.2))
  | .string => match x with
    | .sx .str e => .val (.sx .str e)
    | x => optT (xl x) fun p => iffT (slU8 P us && isB p.1) (.val (.sx .str (.ofB p.2)))
  | .slice e => match x with
    | .sx .str a => iffT (isU8 P e) (.val (.sx (.lst [.int .u8]) (.toB a)))
    | _ => .no
  | _ => .no
noncomputable def symBlt (P : Program) (b : Builtin) (ts : Array TypeId) (args : List AV) : Tb :=
  match b, args with
  | .len, [x] => optT ((ts[0]?).bind P.underlying) fun d => match d, x with
    | .string, .sx .str e => .val (.sx (.int .i64) (.lens e))
    | .slice _, x => optT (xl x) fun p => .val (.sx (.int .i64) (.lenl p.2))
    | _, _ => .no
  | .min, [x, y] => optT (xi x) fun p => optT (xi y) fun q => asks (.cmpi .lss q.2 p.2) fun r => .val (bif r then .sx (.int p.1) q.2 else .sx (.int p.1) p.2)
  | .max, [x, y] => optT (xi x) fun p => optT (xi y) fun q => asks (.cmpi .lss p.2 q.2) fun r => .val (bif r then .sx (.int p.1) q.2 else .sx (.int p.1) p.2)
  | _, _ => .no
/-- The cells of an element. -/
noncomputable def cellsX (e i : Xp) (z : Nat) (el : List Sh) : Nat → List AV := List.rec (motive := fun _ => Nat → List AV) (fun _ => []) (fun s _ ih j => .sx s (.get e i z j) :: ih (Nat.succ j)) el
noncomputable def symIdxA (P : Program) (t : TypeId) (x i : AV) : Tb :=
  match x with
  | .fp l => match i with
    | .int _ n => optT (elA P t) fun p => optT (inI n p.1) fun i => optT (szO P p.2) fun k => .val (.fp (dropL (Nat.mul i k) l))
    | _ => .no
  | x => optT (xl x) fun p => optT (xi i) fun q => optT (elS P t) fun et => optT (szO P et) fun k => iffT (Nat.beq (lenL p.1) k) (must (.inb q.2 (.lenl p.2)) (.val (.fp (cellsX p.2 q.2 k p.1 0))))
noncomputable def symIdx (P : Program) (t : TypeId) (x i : AV) : Tb :=
  optT (P.underlying t) fun d => match d with
  | .string => optT (xs x) fun e => optT (xi i) fun q => must (.inb q.2 (.lens e)) (.val (.sx (.int .u8) (.at e q.2)))
  | _ => .no
/-- A bound: the default, or what is told. -/
def bndX (d : Xp) (v : Option AV) : Option Xp := match v with
  | none => some d
  | some x => (xi x).map (·.2)
noncomputable def symSl (P : Program) (t : TypeId) (x : AV) (lo hi : Option AV) : Tb :=
  optT (P.underlying t) fun d => match d with
  | .string => optT (xs x) fun e => optT (bndX (.int 0) lo) fun l => optT (bndX (.lens e) hi) fun h => must (.rng l h (.lens e)) (.val (.sx .str (.subs e l h)))
  | .slice et => optT (xl x) fun p => optT (szO P et) fun k => iffT (Nat.beq (lenL p.1) k) (optT (bndX (.int 0) lo) fun l => optT (bndX (.lenl p.2) hi) fun h => must (.rng l h (.lenl p.2)) (.val (.sx (.lst p.1) (.subl p.2 l h))))
  | _ => .no
noncomputable def symLoad (P : Program) (t : TypeId) (l : List AV) : Tb :=
  optT (isAggB P t) fun b => Bool.rec (motive := fun _ => Tb) (optT (nthL l 0) fun x => .val x) (optT (szO P t) fun k => iffT (Nat.ble k (lenL l)) (.val (.agg (takeL k l)))) b
noncomputable def symFld (P : Program) (t : TypeId) (l : List AV) (f : Nat) : Tb :=
  optT (flds P t) fun fs => optT (fs[f]?) fun f => optT (szO P f.type) fun k => iffT (!Nat.beq k 0) (.val (.fp (dropL f.offset l)))
noncomputable def symTab (P : Program) (op : Op) (args : List AV) : Tb :=
  match op, args with
  | .binOp op t _ _ _, [x, y] => symBin P op t x y
  | .convert s d _, [x] => symConv P s d x
  | .call { callee := .builtin b, argTypes := ts, .. }, args => symBlt P b ts args
  | .indexAddr t _ _, [x, i] => symIdxA P t x i
  | .index t _ _, [x, i] => symIdx P t x i
  | .slice t _ lo hi none, x :: l => optT ((takeO lo.isSome l).bind fun p => (takeO hi.isSome p.2).map fun q => (p.1, q.1)) fun s => symSl P t x s.1 s.2
  | .load t _, [.fp l] => symLoad P t l
  | .fieldAddr t _ f, [.fp l] => symFld P t l f
  | .nilCheck _, [.fp l] => .val (.fp l)
  | .unOp .not _ _, [.sx .bool e] => .ask (e.enc [])
  | .unOp .neg _ _, [.sx (.int k) e] => .val (.sx (.int k) (.bin .sub k (.int 0) e))
  | .pick _ _ _, [.sx .bool e, _, _] => .ask (e.enc [])
  | _, _ => .no
section
variable {P : Program} {B : Nat} {ρ0 ρ : Pm} {h : Heap} {w : World}
/-- A value that is there at once. -/
theorem tab_here (hr : Rep B ρ h w) {o : Oper} {act : Act} {s : Sem Value} {v : Value} {x : AV} (he : execOp act.eval o = (do pure (Next.value (← s)))) (hs : s.run P w = .ok v w) (hx : x.rp ρ v) :
    ∃ v w', (execOp act.eval o).run P w = .ok (.value v) w' ∧ x.rp (ρ.grow w w') v ∧ Below w.heap.size w w' :=
  ⟨v, w, by rw [he]; exact val_run hs, hx.mono (hr.frozen (Below.refl _ _)).1, Below.refl _ _⟩
theorem zop_is {op : BinOp} {k : IntKind} {a b : Int} (h : op = .add ∨ op = .sub ∨ op = .mul ∨ op = .and ∨ op = .or ∨ op = .xor ∨ op = .andNot ∨ ((op = .quo ∨ op = .rem) ∧ b ≠ 0)) : intOp op k a b = some (.int k (zop op k a b)) := by
  have nz : b ≠ 0 → eqI b 0 = false := fun h => by rw [eqI_eq]; simpa using h
  rcases h with rfl | rfl | rfl | rfl | rfl | rfl | rfl | ⟨rfl | rfl, h⟩
  · exact iv_eq _ _
  · exact iv_eq _ _
  · exact iv_eq _ _
  · exact iv_eq _ _
  · exact iv_eq _ _
  · exact iv_eq _ _
  · exact iv_eq _ _
  · show (bif eqI b 0 then none else iv k (a.tdiv b)) = _
    rw [nz h]
    exact iv_eq _ _
  · show (bif eqI b 0 then none else fInt (a.tmod b) fun n => some (AV.int k n)) = _
    rw [nz h, fInt_eq]
    rfl
theorem int_run {op : BinOp} {k : IntKind} {a b : Int} {z : AV} (e : intOp op k a b = some z) (hs : op ≠ .shl) (hs2 : op ≠ .shr) (t : TypeId) (ox oy : Operand) : ∃ r, (do eqGuard op t ox oy (.int k a) (.int k b); binOp op t (.int k a) (.int k b) : Sem Value).run P w = .ok r w ∧ ∀ ρ, z.rp ρ r := by
  have hg : (eqGuard op t ox oy (.int k a) (.int k b)).run P w = .ok () w := guard_one (fun a h => by cases h) (by simp)
  obtain ⟨r, m1, m2⟩ := intOp_snd (P := P) (w := w) e hs hs2 t
  exact ⟨r, by rw [Sem.run_bind, hg]; exact m1, m2⟩
theorem arith_run {op : BinOp} {k : IntKind} {a b : Int} (h : op = .add ∨ op = .sub ∨ op = .mul ∨ op = .and ∨ op = .or ∨ op = .xor ∨ op = .andNot ∨ ((op = .quo ∨ op = .rem) ∧ b ≠ 0)) (t : TypeId) (ox oy : Operand) : (do eqGuard op t ox oy (.int k a) (.int k b); binOp op t (.int k a) (.int k b) : Sem Value).run P w = .ok (.int k (zop op k a b)) w := by
  obtain ⟨r, m1, m2⟩ := int_run (P := P) (w := w) (zop_is h) (by rintro rfl; simp at h) (by rintro rfl; simp at h) t ox oy
  have := m2 ⟨fun _ => none, fun _ _ => none⟩
  simp only [AV.rp] at this
  rw [this] at m1
  exact m1
theorem cmp_run {op : BinOp} {k : IntKind} {a b : Int} {r : Bool} (h : intOp op k a b = some (.bool r)) (hs : op ≠ .shl) (hs2 : op ≠ .shr) (t : TypeId) (ox oy : Operand) : (do eqGuard op t ox oy (.int k a) (.int k b); binOp op t (.int k a) (.int k b) : Sem Value).run P w = .ok (.bool r) w := by
  obtain ⟨q, m1, m2⟩ := int_run (P := P) (w := w) h hs hs2 t ox oy
  have := m2 ⟨fun _ => none, fun _ _ => none⟩
  simp only [AV.rp] at this
  rw [this] at m1
  exact m1
theorem shift_run {op : BinOp} {k k' : IntKind} {a : Int} {n : Nat} (h : op = .shl ∨ op = .shr) (t : TypeId) (ox oy : Operand) : (do eqGuard op t ox oy (.int k a) (.int k' (n : Int)); binOp op t (.int k a) (.int k' (n : Int)) : Sem Value).run P w = .ok (.int k (zop op k a n)) w := by
  have hg : (eqGuard op t ox oy (.int k a) (.int k' (n : Int))).run P w = .ok () w := guard_one (fun a h => by cases h) (by simp)
  have e : shiftOp op k a (n : Int) = some (.int k (zop op k a n)) := by
    have h0 : ltI (n : Int) 0 = false := by rw [ltI_eq]; simp
    unfold shiftOp
    rw [h0]
    rcases h with rfl | rfl
    · exact iv_eq _ _
    · show (fInt _ fun n => some (AV.int k n)) = _
      rw [fInt_eq]
      rfl
  obtain ⟨r, m1, m2⟩ := shiftOp_snd (P := P) (w := w) (k' := k') e h t
  have := m2 ⟨fun _ => none, fun _ _ => none⟩
  simp only [AV.rp] at this
  rw [this] at m1
  rw [Sem.run_bind, hg]
  exact m1
theorem sx_int {k : IntKind} {e : Xp} {v : Value} (h : v = .int k e.den.i) : (AV.sx (.int k) e).rp ρ v := by simp only [AV.rp, Sh.rp]; exact h
theorem av_bool {b : Bool} {v : Value} (h : v = .bool b) : (AV.bool b).rp ρ v := by simp only [AV.rp]; exact h
theorem symInt_snd {op : BinOp} {p q : IntKind × Xp} {y z : AV} (e : symInt op p q y = .val z) (hq : xi y = some q) {t : TypeId} {ox oy : Operand} :
    ∃ r, (do eqGuard op t ox oy (.int p.1 p.2.den.i) (.int q.1 q.2.den.i); binOp op t (.int p.1 p.2.den.i) (.int q.1 q.2.den.i) : Sem Value).run P w = .ok r w ∧ z.rp ρ r := by
  have arith : ∀ {op : BinOp}, (op = .add ∨ op = .sub ∨ op = .mul ∨ op = .and ∨ op = .or ∨ op = .xor ∨ op = .andNot) → iffT (decide (p.1 = q.1)) (.val (.sx (.int p.1) (.bin op p.1 p.2 q.2))) = .val z → ∃ r, (do eqGuard op t ox oy (.int p.1 p.2.den.i) (.int q.1 q.2.den.i); binOp op t (.int p.1 p.2.den.i) (.int q.1 q.2.den.i) : Sem Value).run P w = .ok r w ∧ z.rp ρ r := fun {op} ho e => by
    obtain ⟨h1, h2⟩ := iffT_val e
    injection h2 with h2
    have h1 : p.1 = q.1 := of_decide_eq_true h1
    rw [← h1, ← h2]
    exact ⟨_, arith_run (by rcases ho with h | h | h | h | h | h | h <;> simp [h]) t ox oy, sx_int rfl⟩
  have quo : ∀ {op : BinOp}, (op = .quo ∨ op = .rem) → iffT (litNz y && decide (p.1 = q.1)) (.val (.sx (.int p.1) (.bin op p.1 p.2 q.2))) = .val z → ∃ r, (do eqGuard op t ox oy (.int p.1 p.2.den.i) (.int q.1 q.2.den.i); binOp op t (.int p.1 p.2.den.i) (.int q.1 q.2.den.i) : Sem Value).run P w = .ok r w ∧ z.rp ρ r := fun {op} ho e => by
    obtain ⟨h1, h2⟩ := iffT_val e
    injection h2 with h2
    rw [Bool.and_eq_true] at h1
    have h3 : p.1 = q.1 := of_decide_eq_true h1.2
    have hnz : q.2.den.i ≠ 0 := by
      have h1 := h1.1
      unfold litNz at h1
      split at h1
      · unfold xi at hq; injection hq with hq; rw [← hq]; show ((Nat.succ _ : Nat) : Int) ≠ 0; omega
      · unfold xi at hq; injection hq with hq; rw [← hq]; show (Int.negSucc _) ≠ 0; intro h; cases h
      · cases h1
    rw [← h3, ← h2]
    exact ⟨_, arith_run (by simp [ho, hnz]) t ox oy, sx_int rfl⟩
  have shf : ∀ {op : BinOp}, (op = .shl ∨ op = .shr) → iffT (litNat y) (.val (.sx (.int p.1) (.bin op p.1 p.2 q.2))) = .val z → ∃ r, (do eqGuard op t ox oy (.int p.1 p.2.den.i) (.int q.1 q.2.den.i); binOp op t (.int p.1 p.2.den.i) (.int q.1 q.2.den.i) : Sem Value).run P w = .ok r w ∧ z.rp ρ r := fun {op} ho e => by
    obtain ⟨h1, h2⟩ := iffT_val e
    injection h2 with h2
    obtain ⟨n, hn⟩ : ∃ n : Nat, q.2.den.i = (n : Int) := by
      unfold litNat at h1
      split at h1
      · unfold xi at hq; injection hq with hq; rw [← hq]; exact ⟨_, rfl⟩
      · cases h1
    rw [← h2]
    refine ⟨.int p.1 (zop op p.1 p.2.den.i q.2.den.i), ?_, sx_int rfl⟩
    rw [hn]
    exact shift_run ho t ox oy
  have cmp : ∀ {op : BinOp} {c : Xp} {g : Bool → Bool}, op ≠ .shl → op ≠ .shr → (∀ b, c.den = .bool b → intOp op p.1 p.2.den.i q.2.den.i = some (.bool (g b))) → iffT (decide (p.1 = q.1)) (asks c fun r => .val (.bool (g r))) = .val z → ∃ r, (do eqGuard op t ox oy (.int p.1 p.2.den.i) (.int q.1 q.2.den.i); binOp op t (.int p.1 p.2.den.i) (.int q.1 q.2.den.i) : Sem Value).run P w = .ok r w ∧ z.rp ρ r := fun {op c g} s1 s2 hc e => by
    obtain ⟨h1, h2⟩ := iffT_val e
    obtain ⟨b, h3, h4⟩ := asks_val h2
    injection h4 with h4
    have h1 : p.1 = q.1 := of_decide_eq_true h1
    rw [← h1, ← h4]
    exact ⟨_, cmp_run (hc b h3) s1 s2 t ox oy, av_bool rfl⟩
  have eqq : ∀ {op : BinOp} {g : Bool → Bool}, op ≠ .shl → op ≠ .shr → (∀ b, decide (p.2.den.i = q.2.den.i) = b → intOp op p.1 p.2.den.i q.2.den.i = some (.bool (g b))) → iffT (decide (p.1 = q.1)) (bif eqX p.2 q.2 then .val (.bool (g true)) else asks (.cmpi .eql p.2 q.2) fun r => .val (.bool (g r))) = .val z → ∃ r, (do eqGuard op t ox oy (.int p.1 p.2.den.i) (.int q.1 q.2.den.i); binOp op t (.int p.1 p.2.den.i) (.int q.1 q.2.den.i) : Sem Value).run P w = .ok r w ∧ z.rp ρ r := fun {op g} s1 s2 hc e => by
    cases hx : eqX p.2 q.2 with
    | true =>
      rw [hx] at e
      obtain ⟨h1, h2⟩ := iffT_val e
      injection h2 with h2
      have h1 : p.1 = q.1 := of_decide_eq_true h1
      rw [← h1, ← h2]
      exact ⟨_, cmp_run (hc true (by rw [eqX_eq hx]; simp)) s1 s2 t ox oy, av_bool rfl⟩
    | false =>
      rw [hx] at e
      exact cmp s1 s2 (fun b hb => hc b (by injection hb)) e
  have lt : ∀ a b : Int, ltI a b = decide (a < b) := ltI_eq
  have eq : ∀ a b : Int, eqI a b = decide (a = b) := fun a b => by rw [eqI_eq]; by_cases h : a = b <;> simp [h]
  cases op with
  | add => exact arith (by simp) e
  | sub => exact arith (by simp) e
  | mul => exact arith (by simp) e
  | and => exact arith (by simp) e
  | or => exact arith (by simp) e
  | xor => exact arith (by simp) e
  | andNot => exact arith (by simp) e
  | quo => exact quo (.inl rfl) e
  | rem => exact quo (.inr rfl) e
  | shl => exact shf (.inl rfl) e
  | shr => exact shf (.inr rfl) e
  | eql => exact eqq (g := fun b => b) (by simp) (by simp) (fun b hb => by rw [← hb]; show bv (eqI _ _) = _; rw [eq]; rfl) e
  | neq => exact eqq (g := fun b => !b) (by simp) (by simp) (fun b hb => by rw [← hb]; show bv (!eqI _ _) = _; rw [eq]; rfl) e
  | lss => exact cmp (g := fun b => b) (by simp) (by simp) (fun b hb => by injection hb with hb; rw [← hb]; show bv (ltI _ _) = _; rw [lt]; rfl) e
  | geq => exact cmp (g := fun b => !b) (by simp) (by simp) (fun b hb => by injection hb with hb; rw [← hb]; show bv (!ltI _ _) = _; rw [lt]; rfl) e
  | gtr => exact cmp (g := fun b => b) (by simp) (by simp) (fun b hb => by injection hb with hb; rw [← hb]; show bv (ltI _ _) = _; rw [lt]; rfl) e
  | leq => exact cmp (g := fun b => !b) (by simp) (by simp) (fun b hb => by injection hb with hb; rw [← hb]; show bv (!ltI _ _) = _; rw [lt]; rfl) e
end
end Go.Proofs.YtdflkikhmngfiaaGreatDoor

