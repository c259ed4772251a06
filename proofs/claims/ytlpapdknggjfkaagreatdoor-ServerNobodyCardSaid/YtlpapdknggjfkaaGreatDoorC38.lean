/- Operations whose outcome is told, by lists. -/
import Derived.Test.YtlpapdknggjfkaaGreatDoorC33
namespace Go.Proofs.YtlpapdknggjfkaaGreatDoor
open Go.RowKit
set_option linter.unusedVariables false
set_option linter.unusedSimpArgs false
set_option linter.unusedSectionVars false
variable [Sy]

noncomputable def eqA (x y : AV) : Bool :=
  match x, y with
  | .un i, .un j => Nat.beq i j
  | .int k a, .int k' b => decide (k = k') && eqI a b
  | .nils, .nils => true
  | _, _ => false
theorem eqA_eq {x y : AV} (h : eqA x y = true) : x = y := by
  unfold eqA at h
  split at h
  · rw [Nat.beq_eq] at h; rw [h]
  · rw [Bool.and_eq_true, decide_eq_true_eq, eqI_eq] at h
    obtain ⟨rfl, h⟩ := h
    rw [eq_of_beq h]
  · rfl
  · cases h
noncomputable def eqAs (a : List AV) : List AV → Bool :=
  List.rec (motive := fun _ => List AV → Bool) (fun b => List.rec (motive := fun _ => Bool) true (fun _ _ _ => false) b) (fun x _ ih b => List.rec (motive := fun _ => Bool) false (fun y m _ => Bool.rec (motive := fun _ => Bool) false (ih m) (eqA x y)) b) a
theorem eqAs_eq : ∀ {a b : List AV}, eqAs a b = true → a = b
  | [], [], _ => rfl
  | [], y :: b, h => by cases h
  | x :: a, [], h => by cases h
  | x :: a, y :: b, h => by
    have h : Bool.rec (motive := fun _ => Bool) false (eqAs a b) (eqA x y) = true := h
    cases he : eqA x y with
    | false => rw [he] at h; cases h
    | true =>
      rw [he] at h
      rw [eqA_eq he, eqAs_eq h]
structure Tabs where
  bins : List (BinOp × AV × AV × AV)
  cnvs : List (TypeId × TypeId × AV × AV)
  blts : List (Builtin × List TypeId × List AV × AV)
noncomputable def pickL {α : Type} (p : α → Bool) (f : α → AV) (l : List α) : Option AV :=
  List.rec (motive := fun _ => Option AV) none (fun x _ ih => Bool.rec (motive := fun _ => Option AV) ih (some (f x)) (p x)) l
theorem pickL_some {α : Type} {p : α → Bool} {f : α → AV} : ∀ {l : List α} {z : AV}, pickL p f l = some z → ∃ x, x ∈ l ∧ p x = true ∧ f x = z
  | [], z, h => by cases h
  | x :: l, z, h => by
    have h : Bool.rec (motive := fun _ => Option AV) (pickL p f l) (some (f x)) (p x) = some z := h
    cases hp : p x with
    | true => rw [hp] at h; injection h with h; exact ⟨x, by simp, hp, h⟩
    | false =>
      rw [hp] at h
      obtain ⟨y, h1, h2, h3⟩ := pickL_some h
      exact ⟨y, by simp [h1], h2, h3⟩
noncomputable def tabC (T : Tabs) (c : Call) (args : List AV) : Option AV :=
  match c.callee with
  | .builtin b => pickL (fun e => decide (e.1 = b) && (eqL e.2.1 c.argTypes.toList && eqAs e.2.2.1 args)) (fun e => e.2.2.2) T.blts
  | _ => none
noncomputable def tabOf (T : Tabs) (op : Op) (args : List AV) : Option AV :=
  match op, args with
  | .binOp op _ _ _ _, [x, y] => pickL (fun e => decide (e.1 = op) && (eqA e.2.1 x && eqA e.2.2.1 y)) (fun e => e.2.2.2) T.bins
  | .convert s d _, [x] => pickL (fun e => Nat.beq e.1 s && (Nat.beq e.2.1 d && eqA e.2.2.1 x)) (fun e => e.2.2.2) T.cnvs
  | .call c, args => tabC T c args
  | _, _ => none
section
variable {P : Program} {B : Nat} {ρ0 : Pm}
def BinOK (P : Program) (e : BinOp × AV × AV × AV) : Prop := ∀ (ρ : Pm) (w : World) (v u : Value) (t : TypeId) (ox oy : Operand), e.2.1.rp ρ v → e.2.2.1.rp ρ u → ∃ r, (do eqGuard e.1 t ox oy v u; binOp e.1 t v u : Sem Value).run P w = .ok r w ∧ e.2.2.2.rp ρ r
def CnvOK (P : Program) (e : TypeId × TypeId × AV × AV) : Prop := ∀ (ρ : Pm) (w : World) (v : Value), e.2.2.1.rp ρ v → ∃ r w', (convert e.1 e.2.1 v).run P w = .ok r w' ∧ e.2.2.2.rp ρ r ∧ Below w.heap.size w w'
def BltOK (P : Program) (e : Builtin × List TypeId × List AV × AV) : Prop := ∀ (ρ : Pm) (w : World) (vs : Array Value) (ty : TypeId) (cs : Array Bool), AV.rps ρ e.2.2.1 vs.toList → ∃ s r w', builtin e.1 e.2.1.toArray ty cs vs = (do pure (Next.value (← s))) ∧ s.run P w = .ok r w' ∧ e.2.2.2.rp ρ r ∧ Below w.heap.size w w'
theorem tabOf_snd {T : Tabs} (hb : ∀ e, e ∈ T.bins → BinOK P e) (hc : ∀ e, e ∈ T.cnvs → CnvOK P e) (hl : ∀ e, e ∈ T.blts → BltOK P e) : TabSnd P B ρ0 (tabOf T) := by
  intro o args x e ρ h act w hle hr hv
  obtain ⟨dst, op, type, pos, after, guard⟩ := o
  have e : tabOf T op args = some x := e
  unfold tabOf at e
  split at e
  · rename_i op2 t a b t2 q z e9
    obtain ⟨y', z', h1, hy, hz⟩ := rps_r2 hv
    injection h1 with h1 h2
    injection h2 with h2 _
    subst h1 h2
    obtain ⟨en, k1, k2, k3⟩ := pickL_some e
    rw [Bool.and_eq_true, Bool.and_eq_true, decide_eq_true_eq] at k2
    obtain ⟨k4, k5, k6⟩ := k2
    have k5 := eqA_eq k5
    have k6 := eqA_eq k6
    obtain ⟨r, m1, m2⟩ := hb en k1 ρ w _ _ t a b (by rw [k5]; exact hy) (by rw [k6]; exact hz)
    rw [k4] at m1
    rw [k3] at m2
    exact ⟨r, w, val_run m1, m2, Below.refl _ _⟩
  · rename_i s d a y
    obtain ⟨y', h1, hy⟩ := rps_r1 hv
    injection h1 with h1 _
    subst h1
    obtain ⟨en, k1, k2, k3⟩ := pickL_some e
    rw [Bool.and_eq_true, Bool.and_eq_true, Nat.beq_eq, Nat.beq_eq] at k2
    obtain ⟨k4, k5, k6⟩ := k2
    have k6 := eqA_eq k6
    obtain ⟨r, w', m1, m2, m3⟩ := hc en k1 ρ w _ (by rw [k6]; exact hy)
    rw [k4, k5] at m1
    rw [k3] at m2
    exact ⟨r, w', val_run m1, m2, m3⟩
  · rename_i c q
    obtain ⟨callee, cargs, cts⟩ := c
    cases callee with
    | builtin b =>
      have e : pickL (fun e => decide (e.1 = b) && (eqL e.2.1 cts.toList && eqAs e.2.2.1 args)) (fun e => e.2.2.2) T.blts = some x := e
      have hv : AV.rps ρ args (cargs.map act.eval).toList := by simpa [Op.operands, Call.operands] using hv
      obtain ⟨en, k1, k2, k3⟩ := pickL_some e
      rw [Bool.and_eq_true, Bool.and_eq_true, decide_eq_true_eq, eqL_eq] at k2
      obtain ⟨k4, k5, k6⟩ := k2
      have k5 := eq_of_beq k5
      have k6 := eqAs_eq k6
      obtain ⟨s, r, w', m0, m1, m2, m3⟩ := hl en k1 ρ w (cargs.map act.eval) type (cargs.map fun | .const _ => true | _ => false) (by rw [k6]; exact hv)
      rw [k4, k5] at m0
      rw [k3] at m2
      refine ⟨r, w', ?_, m2, m3⟩
      show ((resolve act.eval ⟨.builtin b, cargs, cts⟩ type) >>= fun d => invoke d.target d.args).run P w = _
      show ((Sem.pure _ : Sem Deferred) >>= fun d => invoke d.target d.args).run P w = _
      show (builtin b cts type (cargs.map fun | .const _ => true | _ => false) (cargs.map act.eval)).run P w = _
      exact (congrArg (fun s => s.run P w) m0).trans (val_run m1)
    | _ => cases e
  · cases e
/-- Bytes of a text behind nothing. -/
theorem blt_app_none {t t1 e : TypeId} {x z : AV} {n : Nat} {i : TypeInfo} {zv : Value} (hu : P.underlying t = some (.slice e)) (hu1 : P.underlying t1 = some .string) (hi : P.info? e = some i) (hs1 : i.size = 1) (hz : i.zero = some zv) (hb : i.bytes ≤ 10000) (hn : n ≤ 100000)
    (hx : ∀ ρ v, x.rp ρ v → ∃ s, v = .string s ∧ s.size = n) (hzz : ∀ ρ a c, (a = none → n = 0) → n ≤ c → z.rp ρ (.slice a n c)) : BltOK P (.append, [t, t1], [.nils, x], z) := by
  intro ρ w vs ty cs hv
  obtain ⟨u, v, rfl, h0, h⟩ := rps_l2 hv
  simp only [AV.rp] at h0
  subst h0
  obtain ⟨s, rfl, hsz⟩ := hx _ _ h
  have hks : ∀ w, (sizeOf e).run P w = .ok i.size w := fun w => by simp [sizeOf, typeInfo, hi]
  have hlen : (Builtin.lenOf (.string s)).run P w = .ok n w := by rw [← hsz]; rfl
  have hf : ∀ w : World, (Builtin.firstCells i.size n (.string s)).run P w = .ok (((s.extract 0 n).data.map fun b => Value.int .u8 (b.toNat : Int)).toList.toArray) w := fun w => by
    rw [Array.toArray_toList]
    rfl
  by_cases h0 : n = 0
  · have hf0 : (Builtin.firstCells i.size 0 (.string s)).run P w = .ok #[] w := by
      show (Sem.pure ((s.extract 0 0).data.map fun b => Value.int .u8 (b.toNat : Int)) : Sem (Array Value)).run P w = _
      have : (s.extract 0 0).data = #[] := by
        rw [ByteArray.data_extract]
        simp
      rw [this]
      simp
    rw [h0] at hlen
    exact ⟨Builtin.append_ #[t, t1] ty #[.slice none 0 0, .string s], _, w, rfl, app_none hu (.inr hu1) hks hlen hf0, by have := hzz ρ none 0 (fun _ => h0) (by omega); rw [h0] at this; exact this, Below.refl _ _⟩
  · have hg := app_grow (P := P) (w := w) (ty := ty) (a := none) (sLen := 0) (cap := 0) (olds := []) hu (.inr hu1) hi hz hlen (hf w.drew) rfl (by omega) hb (by omega)
    rw [Nat.zero_add] at hg
    refine ⟨Builtin.append_ #[t, t1] ty #[.slice none 0 0, .string s], _, _, rfl, hg, hzz ρ _ _ (fun h => by cases h) (grownCap_ge w n 0 e), ?_⟩
    exact Below.drew_iff (B := w.heap.size) ((Below.refl w.heap.size w.drew).alloc (Nat.le_refl _) _)
/-- Nothing behind something. -/
theorem blt_app_zero {t t1 e : TypeId} {x z : AV} {kk : IntKind} {i : TypeInfo} (hu : P.underlying t = some (.slice e)) (hu1 : P.underlying t1 = some (.int kk)) (hi : P.info? e = some i)
    (hx : ∀ ρ v, x.rp ρ v → ∃ a n c, v = .slice a n c ∧ (a = none → n = 0) ∧ n ≤ c ∧ z.rp ρ v) : BltOK P (.append, [t, t1], [x, .int .i64 0], z) := by
  intro ρ w vs ty cs hv
  obtain ⟨u, v, rfl, h0, h⟩ := rps_l2 hv
  obtain ⟨a, n, c, rfl, h1, h2, h3⟩ := hx _ _ h0
  have hc : cntV P t1 (.int .i64 0) = some 0 := by unfold cntV; rw [hu1]; rfl
  exact ⟨Builtin.append_ #[t, t1] ty #[.slice a n c, v], _, w, rfl, app0_run hu (k := i.size) (by unfold szO; rw [hi]; rfl) hc h h2 h1, h3, Below.refl _ _⟩
theorem blt_min {t t1 : TypeId} {x y z : AV} {k : IntKind} {a b : Int} (hx : ∀ ρ v, x.rp ρ v → v = .int k a) (hy : ∀ ρ v, y.rp ρ v → v = .int k b) (hz : ∀ ρ, z.rp ρ (.int k (if b < a then b else a))) : BltOK P (.min, [t, t1], [x, y], z) := by
  intro ρ w vs ty cs hv
  obtain ⟨u, v, rfl, h0, h⟩ := rps_l2 hv
  obtain rfl := hx _ _ h0
  obtain rfl := hy _ _ h
  have e : foldV min2V [.int k b] (.int k a) = some (.int k (if b < a then b else a)) := by
    show some (AV.int k (bif ltI b a then b else a)) = _
    rw [ltI_eq]
    by_cases hb : b < a <;> simp [hb]
  obtain ⟨r, m1, m2⟩ := min_snd (P := P) (ρ := ρ) (w := w) (v := .int k a) e (by simp only [AV.rp]) (rps_cons.2 ⟨.int k b, [], rfl, by simp only [AV.rp], rps_nil.2 rfl⟩)
  simp only [AV.rp] at m2
  subst m2
  exact ⟨Builtin.min_ #[t, t1] ty #[.int k a, .int k b], _, w, rfl, m1, hz ρ, Below.refl _ _⟩
/-- It tells one value. -/
def Is (x : AV) (v : Value) : Prop := ∀ ρ u, x.rp ρ u → u = v
theorem is_int (k : IntKind) (n : Int) : Is (.int k n) (.int k n) := fun ρ u h => by simpa only [AV.rp] using h
theorem bin_int {op : BinOp} {x y z z0 : AV} {k : IntKind} {a b : Int} (hx : Is x (.int k a)) (hy : Is y (.int k b)) (hs : op ≠ .shl) (hs2 : op ≠ .shr) (e : intOp op k a b = some z0) (hz : ∀ ρ q, z0.rp ρ q → z.rp ρ q) : BinOK P (op, x, y, z) := by
  intro ρ w v u t ox oy h1 h2
  obtain rfl := hx _ _ h1
  obtain rfl := hy _ _ h2
  have hg : (eqGuard op t ox oy (.int k a) (.int k b)).run P w = .ok () w := guard_one (fun a h => by cases h) (by simp)
  obtain ⟨r, m1, m2⟩ := intOp_snd (P := P) (w := w) e hs hs2 t
  exact ⟨r, by rw [Sem.run_bind, hg]; exact m1, hz _ _ (m2 ρ)⟩
/-- A comparing whose outcome is told. -/
theorem bin_lt {op : BinOp} {x y : AV} {k : IntKind} {a b : Int} {r : Bool} (hx : Is x (.int k a)) (hy : Is y (.int k b)) (hop : (op = .lss ∧ decide (a < b) = r) ∨ (op = .gtr ∧ decide (b < a) = r) ∨ (op = .leq ∧ decide (a ≤ b) = r) ∨ (op = .geq ∧ decide (b ≤ a) = r) ∨ (op = .eql ∧ decide (a = b) = r) ∨ (op = .neq ∧ decide (a ≠ b) = r)) : BinOK P (op, x, y, .bool r) := by
  have hn : ∀ p q : Int, (!decide (p < q)) = decide (q ≤ p) := fun p q => by by_cases h : p < q <;> simp [h] <;> omega
  have he : eqI a b = decide (a = b) := by rw [eqI_eq]; by_cases h : a = b <;> simp [h]
  rcases hop with ⟨rfl, rfl⟩ | ⟨rfl, rfl⟩ | ⟨rfl, rfl⟩ | ⟨rfl, rfl⟩ | ⟨rfl, rfl⟩ | ⟨rfl, rfl⟩
  · exact bin_int (z0 := .bool (ltI a b)) hx hy (by simp) (by simp) rfl (fun ρ q h => by simp only [AV.rp] at h ⊢; rw [h, ltI_eq])
  · exact bin_int (z0 := .bool (ltI b a)) hx hy (by simp) (by simp) rfl (fun ρ q h => by simp only [AV.rp] at h ⊢; rw [h, ltI_eq])
  · exact bin_int (z0 := .bool (!ltI b a)) hx hy (by simp) (by simp) rfl (fun ρ q h => by simp only [AV.rp] at h ⊢; rw [h, ltI_eq, hn])
  · exact bin_int (z0 := .bool (!ltI a b)) hx hy (by simp) (by simp) rfl (fun ρ q h => by simp only [AV.rp] at h ⊢; rw [h, ltI_eq, hn])
  · exact bin_int (z0 := .bool (eqI a b)) hx hy (by simp) (by simp) rfl (fun ρ q h => by simp only [AV.rp] at h ⊢; rw [h, he])
  · exact bin_int (z0 := .bool (!eqI a b)) hx hy (by simp) (by simp) rfl (fun ρ q h => by simp only [AV.rp] at h ⊢; rw [h, he]; by_cases h : a = b <;> simp [h])
theorem bin_sub {x y z : AV} {k : IntKind} {a b : Int} (hx : Is x (.int k a)) (hy : Is y (.int k b)) (hz : ∀ ρ, z.rp ρ (.int k (k.wrap (a - b)))) : BinOK P (.sub, x, y, z) :=
  bin_int (z0 := .int k (k.wrap (a - b))) hx hy (by simp) (by simp) (iv_eq k _) (fun ρ q h => by simp only [AV.rp] at h; rw [h]; exact hz ρ)
theorem bin_add {x y z : AV} {k : IntKind} {a b : Int} (hx : Is x (.int k a)) (hy : Is y (.int k b)) (hz : ∀ ρ, z.rp ρ (.int k (k.wrap (a + b)))) : BinOK P (.add, x, y, z) :=
  bin_int (z0 := .int k (k.wrap (a + b))) hx hy (by simp) (by simp) (iv_eq k _) (fun ρ q h => by simp only [AV.rp] at h; rw [h]; exact hz ρ)
theorem bin_rem {x y z : AV} {k : IntKind} {a b : Int} (hx : Is x (.int k a)) (hy : Is y (.int k b)) (h0 : b ≠ 0) (hz : ∀ ρ, z.rp ρ (.int k (a.tmod b))) : BinOK P (.rem, x, y, z) :=
  bin_int (z0 := .int k (a.tmod b)) hx hy (by simp) (by simp) (by
    show (bif eqI b 0 then none else fInt (a.tmod b) fun n => some (AV.int k n)) = _
    rw [eqI_eq, fInt_eq, show (b == 0) = false by simpa using h0]
    rfl) (fun ρ q h => by simp only [AV.rp] at h; rw [h]; exact hz ρ)
theorem cnv_int {s d : TypeId} {x z : AV} {k k' : IntKind} {n : Int} {us : TypeDesc} (hs : P.underlying s = some us) (hd : P.underlying d = some (.int k)) (hx : Is x (.int k' n)) (hz : ∀ ρ, z.rp ρ (.int k (k.wrap n))) : CnvOK P (s, d, x, z) := by
  intro ρ w v h
  obtain rfl := hx _ _ h
  exact ⟨.int k (k.wrap n), w, by simp [convert, run_underlying hs, run_underlying hd, Conv.intToInt], hz ρ, Below.refl _ _⟩
theorem blt_slen {t : TypeId} {x z : AV} {n : Nat} (ht : P.underlying t = some .string) (hx : ∀ ρ v, x.rp ρ v → ∃ s, v = .string s ∧ s.size = n) (hz : ∀ ρ, z.rp ρ (goInt n)) : BltOK P (.len, [t], [x], z) := by
  intro ρ w vs ty cs hv
  obtain ⟨v, rfl, h⟩ := rps_l1 hv
  obtain ⟨s, rfl, rfl⟩ := hx _ _ h
  exact ⟨Builtin.len_ #[t] ty #[.string s], goInt s.size, w, rfl, by simp [Builtin.len_, run_underlying ht], hz ρ, Below.refl _ _⟩
theorem blt_llen {t e : TypeId} {x z : AV} {n : Nat} (ht : P.underlying t = some (.slice e)) (hx : ∀ ρ v, x.rp ρ v → ∃ a c, v = .slice a n c) (hz : ∀ ρ, z.rp ρ (goInt n)) : BltOK P (.len, [t], [x], z) := by
  intro ρ w vs ty cs hv
  obtain ⟨v, rfl, h⟩ := rps_l1 hv
  obtain ⟨a, c, rfl⟩ := hx _ _ h
  exact ⟨Builtin.len_ #[t] ty #[.slice a n c], goInt n, w, rfl, by simp [Builtin.len_, run_underlying ht], hz ρ, Below.refl _ _⟩
end
end Go.Proofs.YtlpapdknggjfkaaGreatDoor

