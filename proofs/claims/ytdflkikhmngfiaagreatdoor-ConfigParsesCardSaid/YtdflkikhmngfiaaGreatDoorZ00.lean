/- ExA · EyB: joined by a program, for a claim has at most 60 files. -/
import Derived.Calls
import Derived.Below
/- A machine of the kernel's own for closed runs: a trie by numbers. -/
namespace Go.Proofs.YtdflkikhmngfiaaGreatDoor
set_option linter.unusedVariables false

inductive Tr (α : Type) where
  | leaf
  | node (v : Option α) (l r : Tr α)
theorem nb {n : Nat} (h : ¬ n = 0) : Nat.beq n 0 = false := by
  cases n with
  | zero => exact absurd rfl h
  | succ n => rfl
namespace Tr
variable {α : Type}
/-- What stands at a number. -/
noncomputable def get (t : Tr α) : Nat → Option α :=
  Tr.rec (motive := fun _ => Nat → Option α) (fun _ => none)
    (fun v _ _ il ir k => Nat.rec (motive := fun _ => Option α) v (fun k _ => Bool.rec (motive := fun _ => Option α) (ir (k / 2)) (il (k / 2)) (Nat.beq (k % 2) 0)) k) t
theorem get_leaf (k : Nat) : (leaf : Tr α).get k = none := rfl
theorem get_zero (v : Option α) (l r : Tr α) : (node v l r).get 0 = v := rfl
theorem get_succ (v : Option α) (l r : Tr α) (k : Nat) : (node v l r).get (k + 1) = if k % 2 = 0 then l.get (k / 2) else r.get (k / 2) := by
  show Bool.rec (motive := fun _ => Option α) (r.get (k / 2)) (l.get (k / 2)) (Nat.beq (k % 2) 0) = _
  by_cases h : k % 2 = 0
  · rw [if_pos h, h]; rfl
  · rw [if_neg h, nb h]
/-- A node whose left side is t, t made ready first. -/
noncomputable def lft (v : Option α) (t r : Tr α) : Tr α := Tr.rec (motive := fun _ => Tr α) (node v leaf r) (fun a b c _ _ => node v (node a b c) r) t
noncomputable def rgt (v : Option α) (l t : Tr α) : Tr α := Tr.rec (motive := fun _ => Tr α) (node v l leaf) (fun a b c _ _ => node v l (node a b c)) t
theorem lft_eq (v : Option α) (t r : Tr α) : lft v t r = node v t r := by cases t <;> rfl
theorem rgt_eq (v : Option α) (l t : Tr α) : rgt v l t = node v l t := by cases t <;> rfl
/-- A value at a number. -/
noncomputable def setF (x : Option α) (f : Nat) : Tr α → Nat → Tr α :=
  Nat.rec (motive := fun _ => Tr α → Nat → Tr α) (fun t _ => t)
    (fun _ ih t k => Tr.rec (motive := fun _ => Tr α)
      (Nat.rec (motive := fun _ => Tr α) (node x leaf leaf) (fun k _ => Bool.rec (motive := fun _ => Tr α) (rgt none leaf (ih leaf (k / 2))) (lft none (ih leaf (k / 2)) leaf) (Nat.beq (k % 2) 0)) k)
      (fun v l r _ _ => Nat.rec (motive := fun _ => Tr α) (node x l r) (fun k _ => Bool.rec (motive := fun _ => Tr α) (rgt v l (ih r (k / 2))) (lft v (ih l (k / 2)) r) (Nat.beq (k % 2) 0)) k) t) f
noncomputable def put (t : Tr α) (k : Nat) (x : Option α) : Tr α := setF x (k + 1) t k
noncomputable def set (t : Tr α) (k : Nat) (x : α) : Tr α := put t k (some x)
theorem setF_leaf_zero (x : Option α) (f : Nat) : setF x (f + 1) leaf 0 = node x leaf leaf := rfl
theorem setF_node_zero (x : Option α) (f : Nat) (v : Option α) (l r : Tr α) : setF x (f + 1) (node v l r) 0 = node x l r := rfl
theorem setF_leaf_succ (x : Option α) (f k : Nat) : setF x (f + 1) leaf (k + 1) = if k % 2 = 0 then node none (setF x f leaf (k / 2)) leaf else node none leaf (setF x f leaf (k / 2)) := by
  show Bool.rec (motive := fun _ => Tr α) (rgt none leaf (setF x f leaf (k / 2))) (lft none (setF x f leaf (k / 2)) leaf) (Nat.beq (k % 2) 0) = _
  rw [lft_eq, rgt_eq]
  by_cases h : k % 2 = 0
  · rw [if_pos h, h]; rfl
  · rw [if_neg h, nb h]
theorem setF_node_succ (x : Option α) (f k : Nat) (v : Option α) (l r : Tr α) : setF x (f + 1) (node v l r) (k + 1) = if k % 2 = 0 then node v (setF x f l (k / 2)) r else node v l (setF x f r (k / 2)) := by
  show Bool.rec (motive := fun _ => Tr α) (rgt v l (setF x f r (k / 2))) (lft v (setF x f l (k / 2)) r) (Nat.beq (k % 2) 0) = _
  rw [lft_eq, rgt_eq]
  by_cases h : k % 2 = 0
  · rw [if_pos h, h]; rfl
  · rw [if_neg h, nb h]
theorem half_eq {j k : Nat} (h : j / 2 = k / 2) (h2 : j % 2 = k % 2) : j = k := by omega
theorem get_setF (x : Option α) : ∀ (f : Nat) (t : Tr α) (k j : Nat), k < f → (setF x f t k).get j = if j = k then x else t.get j := by
  intro f
  induction f with
  | zero => intro t k j h; omega
  | succ f ih =>
    intro t k j h
    cases k with
    | zero =>
      cases t with
      | leaf =>
        rw [setF_leaf_zero]
        cases j with
        | zero => rfl
        | succ j => rw [get_succ]; simp [get_leaf]
      | node v l r =>
        rw [setF_node_zero]
        cases j with
        | zero => rfl
        | succ j => rw [if_neg (Nat.succ_ne_zero j), get_succ, get_succ]
    | succ k =>
      have hk : k / 2 < f := by omega
      cases t with
      | leaf =>
        rw [setF_leaf_succ]
        cases j with
        | zero => rw [if_neg (Nat.succ_ne_zero k).symm]; split <;> rfl
        | succ j =>
          by_cases hp : k % 2 = 0
          · rw [if_pos hp, get_succ]
            by_cases hj : j % 2 = 0
            · rw [if_pos hj, ih _ _ _ hk]
              by_cases e : j = k
              · rw [if_pos (by rw [e]), if_pos (by omega)]
              · rw [if_neg (fun h => e (half_eq h (by omega))), if_neg (by omega)]; rfl
            · rw [if_neg hj, if_neg (by omega)]; rfl
          · rw [if_neg hp, get_succ]
            by_cases hj : j % 2 = 0
            · rw [if_pos hj, if_neg (by omega)]; rfl
            · rw [if_neg hj, ih _ _ _ hk]
              by_cases e : j = k
              · rw [if_pos (by rw [e]), if_pos (by omega)]
              · rw [if_neg (fun h => e (half_eq h (by omega))), if_neg (by omega)]; rfl
      | node v l r =>
        rw [setF_node_succ]
        cases j with
        | zero => rw [if_neg (Nat.succ_ne_zero k).symm]; split <;> rfl
        | succ j =>
          rw [get_succ v l r]
          by_cases hp : k % 2 = 0
          · rw [if_pos hp, get_succ]
            by_cases hj : j % 2 = 0
            · rw [if_pos hj, if_pos hj, ih _ _ _ hk]
              by_cases e : j = k
              · rw [if_pos (by rw [e]), if_pos (by omega)]
              · rw [if_neg (fun h => e (half_eq h (by omega))), if_neg (by omega)]
            · rw [if_neg hj, if_neg hj, if_neg (by omega)]
          · rw [if_neg hp, get_succ]
            by_cases hj : j % 2 = 0
            · rw [if_pos hj, if_pos hj, if_neg (by omega)]
            · rw [if_neg hj, if_neg hj, ih _ _ _ hk]
              by_cases e : j = k
              · rw [if_pos (by rw [e]), if_pos (by omega)]
              · rw [if_neg (fun h => e (half_eq h (by omega))), if_neg (by omega)]
theorem get_put (t : Tr α) (k j : Nat) (x : Option α) : (t.put k x).get j = if j = k then x else t.get j := get_setF x (k + 1) t k j (by omega)
theorem get_set (t : Tr α) (k j : Nat) (x : α) : (t.set k x).get j = if j = k then some x else t.get j := get_put t k j (some x)
/-- The values of a list, from a number on. -/
noncomputable def fill (l : List α) : Nat → Tr α → Tr α :=
  List.rec (motive := fun _ => Nat → Tr α → Tr α) (fun _ t => t) (fun x _ ih k t => ih (k + 1) (t.set k x)) l
theorem fill_nil (k : Nat) (t : Tr α) : fill [] k t = t := rfl
theorem fill_cons (x : α) (l : List α) (k : Nat) (t : Tr α) : fill (x :: l) k t = fill l (k + 1) (t.set k x) := rfl
theorem get_fill : ∀ (l : List α) (k : Nat) (t : Tr α) (j : Nat), (fill l k t).get j = if k ≤ j ∧ j < k + l.length then l[j - k]? else t.get j := by
  intro l
  induction l with
  | nil => intro k t j; rw [fill_nil, if_neg (by simp)]
  | cons x l ih =>
    intro k t j
    rw [fill_cons, ih, get_set]
    by_cases h : j = k
    · subst h
      rw [if_neg (by omega), if_pos rfl, if_pos (by simp)]
      simp
    · rw [if_neg h]
      by_cases h2 : k + 1 ≤ j ∧ j < k + 1 + l.length
      · rw [if_pos h2, if_pos (by simp only [List.length_cons]; omega), show j - k = (j - (k + 1)) + 1 from by omega, List.getElem?_cons_succ]
      · rw [if_neg h2, if_neg (by simp only [List.length_cons]; omega)]
noncomputable def ofList (l : List α) : Tr α := fill l 0 leaf
theorem get_ofList (l : List α) (j : Nat) : (ofList l).get j = l[j]? := by
  unfold ofList
  rw [get_fill]
  by_cases h : j < l.length
  · rw [if_pos (by omega)]; rfl
  · rw [if_neg (by omega), get_leaf, List.getElem?_eq_none (by omega)]
/-- The values from k on, n of them; none if one lacks. -/
noncomputable def list (t : Tr α) (n : Nat) : Nat → Option (List α) :=
  Nat.rec (motive := fun _ => Nat → Option (List α)) (fun _ => some [])
    (fun _ ih k => Option.rec (motive := fun _ => Option (List α)) none (fun x => Option.rec (motive := fun _ => Option (List α)) none (fun l => some (x :: l)) (ih (k + 1))) (t.get k)) n
theorem list_zero (t : Tr α) (k : Nat) : t.list 0 k = some [] := rfl
theorem list_succ (t : Tr α) (n k : Nat) : t.list (n + 1) k = (match t.get k with | none => none | some x => match t.list n (k + 1) with | none => none | some l => some (x :: l)) := by
  show Option.rec (motive := fun _ => Option (List α)) none (fun x => Option.rec (motive := fun _ => Option (List α)) none (fun l => some (x :: l)) (t.list n (k + 1))) (t.get k) = _
  cases t.get k <;> cases t.list n (k + 1) <;> rfl
theorem list_spec (t : Tr α) : ∀ (n k : Nat) (l : List α), t.list n k = some l → l.length = n ∧ ∀ i, i < n → t.get (k + i) = l[i]? := by
  intro n
  induction n with
  | zero => intro k l h; rw [list_zero] at h; cases h; exact ⟨rfl, fun i hi => by omega⟩
  | succ n ih =>
    intro k l h
    rw [list_succ] at h
    split at h
    · cases h
    · rename_i x hx
      split at h
      · cases h
      · rename_i l2 h2
        cases h
        obtain ⟨h3, h4⟩ := ih _ _ h2
        refine ⟨by simp [h3], fun i hi => ?_⟩
        cases i with
        | zero => simpa using hx
        | succ i => rw [show k + (i + 1) = k + 1 + i by omega, h4 i (by omega)]; simp
theorem list_of (t : Tr α) : ∀ (n k : Nat) (l : List α), l.length = n → (∀ i, i < n → t.get (k + i) = l[i]?) → t.list n k = some l := by
  intro n
  induction n with
  | zero => intro k l h _; rw [list_zero, List.length_eq_zero_iff.1 h]
  | succ n ih =>
    intro k l h h2
    cases l with
    | nil => simp at h
    | cons x l =>
      rw [list_succ]
      have h0 := h2 0 (by omega)
      simp only [Nat.add_zero, List.getElem?_cons_zero] at h0
      have h1 := ih (k + 1) l (by simpa using h) (fun i hi => by
        have := h2 (i + 1) (by omega)
        rw [show k + (i + 1) = k + 1 + i by omega] at this
        simpa using this)
      rw [h0, h1]
end Tr
end Go.Proofs.YtdflkikhmngfiaaGreatDoor


/- The machine's values, blocks and states; what a state tells of a world. -/
namespace Go.Proofs.YtdflkikhmngfiaaGreatDoor
open Go.RowKit
set_option linter.unusedVariables false
set_option linter.unusedSimpArgs false
set_option linter.unusedSectionVars false

/-- What a value of one cell is: a number of a kind, a truth value, a text, a list of rows. -/
inductive Sh where
  | int (k : IntKind)
  | bool
  | str
  | lst (el : List Sh)
/-- Plain values. -/
inductive PV where
  | int (n : Int)
  | bool (b : Bool)
  | str (s : ByteArray)
  | lst (l : List PV)
  | tup (l : List PV)
instance : Inhabited PV := ⟨.tup []⟩
def PV.i : PV → Int
  | .int n => n
  | _ => 0
def PV.b : PV → Bool
  | .bool b => b
  | _ => false
def PV.s : PV → ByteArray
  | .str s => s
  | _ => ⟨#[]⟩
def PV.l : PV → List PV
  | .lst l => l
  | _ => []
def PV.t : PV → List PV
  | .tup l => l
  | _ => []
/-- A row's cell. -/
def PV.cl (p : PV) (j : Nat) : PV := match p with
  | .tup l => l.getD j default
  | p => p
/-- A list's row: of one cell, or of several. -/
def PV.row (z : Nat) (p : PV) : List PV := match z with
  | 1 => [p]
  | _ => p.t
def bytesOf (l : List Nat) : ByteArray := ⟨(l.map UInt8.ofNat).toArray⟩
/-- Memory that stays as it is: its cells. -/
abbrev Fz := Nat → Nat → Option Value
mutual
def Sh.rp (F : Fz) : Sh → PV → Value → Prop
  | .int k, p, v => v = .int k p.i
  | .bool, p, v => v = .bool p.b
  | .str, p, v => v = .string p.s
  | .lst el, p, v => ∃ a c, v = .slice a p.l.length c ∧ p.l.length ≤ c ∧ (p.l = [] ∨ ∃ b o, a = some ⟨b, o, none⟩ ∧ ∀ i x, p.l[i]? = some x → Sh.rps F el (x.row el.length) fun j => F b (o + i * el.length + j))
def Sh.rps (F : Fz) : List Sh → List PV → (Nat → Option Value) → Prop
  | [], _, _ => True
  | s :: el, c, f => (∃ u, f 0 = some u ∧ s.rp F (c.headD default) u) ∧ Sh.rps F el c.tail fun j => f (j + 1)
end
def Fz.le (F F' : Fz) : Prop := ∀ b i v, F b i = some v → F' b i = some v
mutual
theorem Sh.rp.mono {F F' : Fz} (h : F.le F') : ∀ {s : Sh} {p : PV} {v : Value}, s.rp F p v → s.rp F' p v
  | .int k, p, v, hx => by simpa only [Sh.rp] using hx
  | .bool, p, v, hx => by simpa only [Sh.rp] using hx
  | .str, p, v, hx => by simpa only [Sh.rp] using hx
  | .lst el, p, v, hx => by
    simp only [Sh.rp] at hx ⊢
    obtain ⟨a, c, h1, h2, h3⟩ := hx
    refine ⟨a, c, h1, h2, ?_⟩
    rcases h3 with h3 | ⟨b, o, h4, h5⟩
    · exact .inl h3
    · exact .inr ⟨b, o, h4, fun i x hi => Sh.rps.mono h (fun j v hj => h _ _ _ hj) (h5 i x hi)⟩
theorem Sh.rps.mono {F F' : Fz} (h : F.le F') : ∀ {el : List Sh} {c : List PV} {f f' : Nat → Option Value}, (∀ j v, f j = some v → f' j = some v) → Sh.rps F el c f → Sh.rps F' el c f'
  | [], c, f, f', hf, hx => by simp only [Sh.rps]
  | s :: el, c, f, f', hf, hx => by
    simp only [Sh.rps] at hx ⊢
    obtain ⟨⟨u, h1, h2⟩, h3⟩ := hx
    exact ⟨⟨u, hf _ _ h1, Sh.rp.mono h h2⟩, Sh.rps.mono h (fun j v => hf (j + 1) v) h3⟩
end
theorem Sh.rp_one {F : Fz} {s : Sh} {p : PV} {v : Value} (h : s.rp F p v) : (∀ a, v ≠ .agg a) ∧ ∀ a, v ≠ .tuple a := by
  cases s with
  | lst el =>
    simp only [Sh.rp] at h
    obtain ⟨a, c, rfl, _⟩ := h
    exact ⟨fun a h => (by cases h), fun a h => (by cases h)⟩
  | _ =>
    simp only [Sh.rp] at h
    subst h
    exact ⟨fun a h => (by cases h), fun a h => (by cases h)⟩
/-- What is told of plain values: an expression. -/
inductive Xp where
  | var (i : Nat)
  | int (n : Int)
  | bool (b : Bool)
  | str (l : List Nat)
  | bin (op : BinOp) (k : IntKind) (a b : Xp)
  | wrap (k : IntKind) (a : Xp)
  | cmpi (op : BinOp) (a b : Xp)
  | eqs (a b : Xp)
  | eqb (a b : Xp)
  | not (a : Xp)
  | cat (a b : Xp)
  | lens (a : Xp)
  | lenl (a : Xp)
  | at (a i : Xp)
  | subs (a l h : Xp)
  | subl (a l h : Xp)
  | inb (i n : Xp)
  | rng (l h n : Xp)
  | get (a i : Xp) (z j : Nat)
  | cell (a : Xp) (j : Nat)
  | app (f : Nat) (a : Xp)
  | nil
  | cons (a b : Xp)
  | lnil
  | snoc (a b : Xp)
  | catl (a b : Xp)
  | ofB (a : Xp)
  | toB (a : Xp)
/-- A number out of two. -/
def zop (op : BinOp) (k : IntKind) (a b : Int) : Int :=
  match op with
  | .add => k.wrap (a + b)
  | .sub => k.wrap (a - b)
  | .mul => k.wrap (a * b)
  | .quo => k.wrap (a.tdiv b)
  | .rem => a.tmod b
  | .and => k.wrap (BitVec.ofInt k.bits a &&& BitVec.ofInt k.bits b).toNat
  | .or => k.wrap (BitVec.ofInt k.bits a ||| BitVec.ofInt k.bits b).toNat
  | .xor => k.wrap (BitVec.ofInt k.bits a ^^^ BitVec.ofInt k.bits b).toNat
  | .andNot => k.wrap (BitVec.ofInt k.bits a &&& ~~~ BitVec.ofInt k.bits b).toNat
  | .shl => k.wrap (a * 2 ^ (min b.toNat k.bits))
  | .shr => a.fdiv (2 ^ (min b.toNat k.bits))
  | _ => 0
def cmpZ (op : BinOp) (a b : Int) : Bool :=
  match op with
  | .eql => decide (a = b)
  | .neq => !decide (a = b)
  | .lss => decide (a < b)
  | .leq => !decide (b < a)
  | .gtr => decide (b < a)
  | .geq => !decide (a < b)
  | _ => false
/-- What is not known: plain values by number, functions of plain values; and of the world that it began in, from a block on. -/
class Sy where
  env : Nat → PV
  fn : Nat → List PV → PV
  low : Fz
  inv : Nat → World → Prop
  /-- Blocks that nobody names: they stay as they are. -/
  gh : Nat → Option Obj
  up : ∀ {B B' : Nat} {w : World}, B ≤ B' → inv B w → inv B' w
  keep : ∀ {B : Nat} {w w' : World}, inv B w → Below B w w' → inv B w'
/-- What is decided. -/
class Dc where
  dec : Xp → Option Bool
variable [Sy]
def Xp.den : Xp → PV
  | .var i => Sy.env i
  | .int n => .int n
  | .bool b => .bool b
  | .str l => .str (bytesOf l)
  | .bin op k a b => .int (zop op k a.den.i b.den.i)
  | .wrap k a => .int (k.wrap a.den.i)
  | .cmpi op a b => .bool (cmpZ op a.den.i b.den.i)
  | .eqs a b => .bool (decide (a.den.s = b.den.s))
  | .eqb a b => .bool (a.den.b == b.den.b)
  | .not a => .bool (!a.den.b)
  | .cat a b => .str (a.den.s ++ b.den.s)
  | .lens a => .int (a.den.s.size : Int)
  | .lenl a => .int (a.den.l.length : Int)
  | .at a i => .int (((a.den.s.data.toList.getD i.den.i.toNat 0).toNat : Nat) : Int)
  | .subs a l h => .str (a.den.s.extract l.den.i.toNat h.den.i.toNat)
  | .subl a l h => .lst ((a.den.l.take h.den.i.toNat).drop l.den.i.toNat)
  | .inb i n => .bool (decide (0 ≤ i.den.i) && decide (i.den.i < n.den.i))
  | .rng l h n => .bool (decide (0 ≤ l.den.i) && (decide (l.den.i ≤ h.den.i) && decide (h.den.i ≤ n.den.i)))
  | .get a i z j => ((a.den.l.getD i.den.i.toNat default).row z).getD j default
  | .cell a j => a.den.cl j
  | .app f a => Sy.fn f a.den.t
  | .nil => .tup []
  | .cons a b => .tup (a.den :: b.den.t)
  | .lnil => .lst []
  | .snoc a b => .lst (a.den.l ++ [b.den])
  | .catl a b => .lst (a.den.l ++ b.den.l)
  | .ofB a => .str ⟨(a.den.l.map fun p => UInt8.ofNat p.i.toNat).toArray⟩
  | .toB a => .lst (a.den.s.data.toList.map fun b => .int (b.toNat : Int))
/-- What is decided is so. -/
class DcOK [Dc] : Prop where
  ok : ∀ e b, Dc.dec e = some b → e.den = .bool b

/-- A value; blocks go by names. -/
inductive AV where
  | bool (b : Bool)
  | int (k : IntKind) (n : Int)
  | str (l : List Nat)
  | nilp
  | ptr (n o : Nat)
  | nils
  | sl (n o len cap : Nat)
  | os (n z e len : Nat)
  | emp
  | nilm
  | map (n : Nat)
  | nilf
  | func (fn : Fn) (first caps : List AV)
  | nili
  | iface (t : TypeId) (v : AV)
  | agg (l : List AV)
  | tup (l : List AV)
  | sx (s : Sh) (e : Xp)
  | fp (l : List AV)
  | oe (n z e : Nat)
  | ol (n : Nat) (el : List Sh) (e : Xp)
instance : Inhabited AV := ⟨.nilp⟩
/-- Where names lie: the block, where in it, and how many elements may stand there. -/
structure Pm where
  nm : Nat → Option (Nat × Nat × Nat)
  fz : Fz
instance : CoeFun Pm fun _ => Nat → Option (Nat × Nat × Nat) := ⟨Pm.nm⟩
structure Pm.le (ρ ρ' : Pm) : Prop where
  nm : ∀ n p, ρ n = some p → ρ' n = some p
  fz : ρ.fz.le ρ'.fz
theorem Pm.le.refl (ρ : Pm) : ρ.le ρ := ⟨fun _ _ h => h, fun _ _ _ h => h⟩
theorem Pm.le.trans {a b c : Pm} (h : a.le b) (k : b.le c) : a.le c := ⟨fun n p hn => k.nm n p (h.nm n p hn), fun x y z hn => k.fz x y z (h.fz x y z hn)⟩
mutual
def AV.rp (ρ : Pm) : AV → Value → Prop
  | .bool b, v => v = .bool b
  | .int k n, v => v = .int k n
  | .str l, v => (∀ b ∈ l, b < 256) ∧ v = .string (bytesOf l)
  | .nilp, v => v = .pointer none
  | .ptr n o, v => ∃ b f c, ρ n = some (b, f, c) ∧ v = .pointer (some ⟨b, f + o, none⟩)
  | .nils, v => v = .slice none 0 0
  | .sl n o len cap, v => ∃ b f c, ρ n = some (b, f, c) ∧ v = .slice (some ⟨b, f + o, none⟩) len cap
  | .os n z e len, v => ∃ b f c, ρ n = some (b, f, c) ∧ e + len ≤ c ∧ v = .slice (some ⟨b, f + e * z, none⟩) len (c - e)
  | .emp, v => ∃ a c, v = .slice (some a) 0 c
  | .nilm, v => v = .map none
  | .map n, v => ∃ b f c, ρ n = some (b, f, c) ∧ v = .map (some b)
  | .nilf, v => v = .nilFunc
  | .func fn f c, v => ∃ f' c', v = .func fn f' c' ∧ rps ρ f f'.toList ∧ rps ρ c c'.toList
  | .nili, v => v = .nilIface
  | .iface t x, v => ∃ y, v = .iface t y ∧ x.rp ρ y
  | .agg l, v => ∃ a, v = .agg a ∧ rps ρ l a.toList
  | .tup l, v => ∃ a, v = .tuple a ∧ rps ρ l a.toList
  | .sx s e, v => s.rp ρ.fz e.den v
  | .fp l, v => ∃ b o u, v = .pointer (some ⟨b, o, none⟩) ∧ AV.rps ρ l u ∧ ∀ i x, u[i]? = some x → ρ.fz b (o + i) = some x
  | .oe n z e, v => ∃ b f c, ρ n = some (b, f, c) ∧ e ≤ c ∧ ((e < c ∧ v = .slice (some ⟨b, f + e * z, none⟩) 0 (c - e)) ∨ (e = c ∧ ∃ a, v = .slice (some a) 0 0))
  | .ol n el e, v => Sh.rp ρ.fz (.lst el) e.den v ∧ ((e.den.l = [] ∧ v = .slice none 0 0) ∨ ∃ b c, ρ n = some (b, 0, c) ∧ v = .slice (some ⟨b, 0, none⟩) e.den.l.length c)
def AV.rps (ρ : Pm) : List AV → List Value → Prop
  | [], m => m = []
  | x :: l, m => ∃ y m', m = y :: m' ∧ x.rp ρ y ∧ rps ρ l m'
end
mutual
theorem AV.rp.mono {ρ ρ' : Pm} (h : ρ.le ρ') : ∀ {x : AV} {v : Value}, x.rp ρ v → x.rp ρ' v
  | .bool b, v, hx => by simpa only [AV.rp] using hx
  | .int k n, v, hx => by simpa only [AV.rp] using hx
  | .str l, v, hx => by simpa only [AV.rp] using hx
  | .nilp, v, hx => by simpa only [AV.rp] using hx
  | .ptr n o, v, hx => by
    simp only [AV.rp] at hx ⊢
    obtain ⟨b, f, c, h1, h2⟩ := hx
    exact ⟨b, f, c, h.nm _ _ h1, h2⟩
  | .nils, v, hx => by simpa only [AV.rp] using hx
  | .sl n o len cap, v, hx => by
    simp only [AV.rp] at hx ⊢
    obtain ⟨b, f, c, h1, h2⟩ := hx
    exact ⟨b, f, c, h.nm _ _ h1, h2⟩
  | .os n z e len, v, hx => by
    simp only [AV.rp] at hx ⊢
    obtain ⟨b, f, c, h1, h2, h3⟩ := hx
    exact ⟨b, f, c, h.nm _ _ h1, h2, h3⟩
  | .emp, v, hx => by simpa only [AV.rp] using hx
  | .nilm, v, hx => by simpa only [AV.rp] using hx
  | .map n, v, hx => by
    simp only [AV.rp] at hx ⊢
    obtain ⟨b, f, c, h1, h2⟩ := hx
    exact ⟨b, f, c, h.nm _ _ h1, h2⟩
  | .nilf, v, hx => by simpa only [AV.rp] using hx
  | .func fn f c, v, hx => by
    simp only [AV.rp] at hx ⊢
    obtain ⟨f', c', e, h1, h2⟩ := hx
    exact ⟨f', c', e, AV.rps.mono h h1, AV.rps.mono h h2⟩
  | .nili, v, hx => by simpa only [AV.rp] using hx
  | .iface t x, v, hx => by
    simp only [AV.rp] at hx ⊢
    obtain ⟨y, e, h1⟩ := hx
    exact ⟨y, e, AV.rp.mono h h1⟩
  | .agg l, v, hx => by
    simp only [AV.rp] at hx ⊢
    obtain ⟨a, e, h1⟩ := hx
    exact ⟨a, e, AV.rps.mono h h1⟩
  | .tup l, v, hx => by
    simp only [AV.rp] at hx ⊢
    obtain ⟨a, e, h1⟩ := hx
    exact ⟨a, e, AV.rps.mono h h1⟩
  | .sx s e, v, hx => by
    simp only [AV.rp] at hx ⊢
    exact hx.mono h.fz
  | .fp l, v, hx => by
    simp only [AV.rp] at hx ⊢
    obtain ⟨b, o, u, e, h1, h2⟩ := hx
    exact ⟨b, o, u, e, AV.rps.mono h h1, fun i x hi => h.fz _ _ _ (h2 i x hi)⟩
  | .oe n z e, v, hx => by
    simp only [AV.rp] at hx ⊢
    obtain ⟨b, f, c, h1, h2⟩ := hx
    exact ⟨b, f, c, h.nm _ _ h1, h2⟩
  | .ol n el e, v, hx => by
    simp only [AV.rp] at hx ⊢
    obtain ⟨h1, h2⟩ := hx
    refine ⟨h1.mono h.fz, ?_⟩
    rcases h2 with h2 | ⟨b, c, h3, h4⟩
    · exact .inl h2
    · exact .inr ⟨b, c, h.nm _ _ h3, h4⟩
theorem AV.rps.mono {ρ ρ' : Pm} (h : ρ.le ρ') : ∀ {l : List AV} {m : List Value}, AV.rps ρ l m → AV.rps ρ' l m
  | [], m, hx => by simpa only [AV.rps] using hx
  | x :: l, m, hx => by
    simp only [AV.rps] at hx ⊢
    obtain ⟨y, m', e, h1, h2⟩ := hx
    exact ⟨y, m', e, AV.rp.mono h h1, AV.rps.mono h h2⟩
end
theorem rps_nil {ρ : Pm} {m : List Value} : AV.rps ρ [] m ↔ m = [] := by simp only [AV.rps]
theorem rps_cons {ρ : Pm} {x : AV} {l : List AV} {m : List Value} : AV.rps ρ (x :: l) m ↔ ∃ y m', m = y :: m' ∧ x.rp ρ y ∧ AV.rps ρ l m' := by simp only [AV.rps]
theorem rps_at {ρ : Pm} : ∀ {l : List AV} {m : List Value}, AV.rps ρ l m ↔ l.length = m.length ∧ ∀ (i : Nat) (x : AV), l[i]? = some x → ∃ v, m[i]? = some v ∧ x.rp ρ v
  | [], m => by
    rw [rps_nil]
    constructor
    · rintro rfl; exact ⟨rfl, fun i x h => by simp at h⟩
    · rintro ⟨h, _⟩; exact List.eq_nil_of_length_eq_zero h.symm
  | x :: l, m => by
    rw [rps_cons]
    constructor
    · rintro ⟨y, m', rfl, h1, h2⟩
      obtain ⟨h3, h4⟩ := rps_at.1 h2
      refine ⟨by simp [h3], fun i z hz => ?_⟩
      cases i with
      | zero => simp at hz; subst hz; exact ⟨y, rfl, h1⟩
      | succ i => simp at hz; simpa using h4 i z hz
    · rintro ⟨h1, h2⟩
      cases m with
      | nil => simp at h1
      | cons y m' =>
        obtain ⟨v, hv, hr⟩ := h2 0 x rfl
        simp at hv
        subst hv
        refine ⟨y, m', rfl, hr, rps_at.2 ⟨by simpa using h1, fun i z hz => ?_⟩⟩
        have := h2 (i + 1) z (by simpa using hz)
        simpa using this
theorem rps_append {ρ : Pm} {a b : List AV} {m n : List Value} (h : AV.rps ρ a m) (k : AV.rps ρ b n) : AV.rps ρ (a ++ b) (m ++ n) := by
  induction a generalizing m with
  | nil => rw [rps_nil] at h; subst h; simpa using k
  | cons x a ih =>
    rw [rps_cons] at h
    obtain ⟨y, m', rfl, h1, h2⟩ := h
    rw [List.cons_append, rps_cons]
    exact ⟨y, m' ++ n, rfl, h1, ih h2⟩
theorem rps_length {ρ : Pm} {l : List AV} {m : List Value} (h : AV.rps ρ l m) : l.length = m.length := (rps_at.1 h).1
/-- A value of one cell. -/
def AV.one : AV → Bool
  | .agg _ => false
  | .tup _ => false
  | _ => true
def AV.cells : AV → List AV
  | .agg l => l
  | x => [x]
theorem rp_one {ρ : Pm} {x : AV} {v : Value} (h : x.rp ρ v) (ho : x.one = true) : (∀ a, v ≠ .agg a) ∧ (∀ a, v ≠ .tuple a) := by
  refine ⟨fun a e => ?_, fun a e => ?_⟩
  all_goals
    subst e
    cases x
    case agg l => exact absurd ho (by simp [AV.one])
    case tup l => exact absurd ho (by simp [AV.one])
    case func fn f c => simp only [AV.rp] at h; obtain ⟨_, _, h, _⟩ := h; exact Value.noConfusion h
    case iface t x => simp only [AV.rp] at h; obtain ⟨_, h, _⟩ := h; exact Value.noConfusion h
    case sx s e =>
      simp only [AV.rp] at h
      first
        | exact (Sh.rp_one h).1 _ rfl
        | exact (Sh.rp_one h).2 _ rfl
    case fp l => simp only [AV.rp] at h; obtain ⟨_, _, _, h, _⟩ := h; exact Value.noConfusion h
    case oe n z e => simp only [AV.rp] at h; obtain ⟨_, _, _, _, _, ⟨_, h⟩ | ⟨_, _, h⟩⟩ := h <;> exact Value.noConfusion h
    case ol n el e =>
      simp only [AV.rp] at h
      first
        | exact (Sh.rp_one h.1).1 _ rfl
        | exact (Sh.rp_one h.1).2 _ rfl
    all_goals
      simp only [AV.rp] at h
      first
        | exact Value.noConfusion h
        | (obtain ⟨_, h⟩ := h; exact Value.noConfusion h)
        | (obtain ⟨_, _, h⟩ := h; exact Value.noConfusion h)
        | (obtain ⟨_, _, _, _, h⟩ := h; exact Value.noConfusion h)
        | (obtain ⟨_, _, _, _, _, h⟩ := h; exact Value.noConfusion h)
theorem rp_cells {ρ : Pm} {x : AV} {v : Value} (h : x.rp ρ v) (ht : ∀ l, x ≠ .tup l) : AV.rps ρ x.cells v.cells.toList := by
  cases x with
  | agg l =>
    simp only [AV.rp] at h
    obtain ⟨a, rfl, h⟩ := h
    exact h
  | tup l => exact absurd rfl (ht l)
  | _ =>
    have hc := rp_one h rfl
    have hv : v.cells = #[v] := by
      cases v with
      | agg a => exact absurd rfl (hc.1 a)
      | _ => rfl
    rw [hv]
    exact rps_cons.2 ⟨v, [], rfl, h, rps_nil.2 rfl⟩
theorem oe_emp {ρ : Pm} {n z e : Nat} {v : Value} (h : (AV.oe n z e).rp ρ v) : ∃ a c, v = .slice (some a) 0 c := by
  simp only [AV.rp] at h
  obtain ⟨_, _, _, _, _, ⟨_, h⟩ | ⟨_, _, h⟩⟩ := h
  · exact ⟨_, _, h⟩
  · exact ⟨_, _, h⟩
/-- A block. -/
inductive Blk where
  | row (el : TypeId) (z sz : Nat) (cs : Tr AV) (opn : Bool)
  | mp (es : List (AV × AV))
  | tok (el : TypeId) (sh : List Sh) (e : Xp)
  | dead
/-- What a block is, but for its cells. -/
inductive Mta where
  | none
  | row (el : TypeId) (z sz : Nat) (opn : Bool)
  | mp (es : List (AV × AV))
  | tok (el : TypeId) (sh : List Sh) (e : Xp)
  | dead
def Blk.mta : Blk → Mta
  | .row el z sz _ o => .row el z sz o
  | .mp es => .mp es
  | .tok el sh e => .tok el sh e
  | .dead => .dead
def metaOf : Option Blk → Mta
  | some b => b.mta
  | none => .none
noncomputable def cellOf : Option Blk → Nat → Option AV
  | some (.row _ _ _ cs _), i => cs.get i
  | _, _ => none
abbrev Heap := Tr Blk
/-- What stands at a place: a block's kind, or a cell. -/
noncomputable def mt (h : Heap) (n : Nat) : Mta := metaOf (h.get n)
noncomputable def cl (h : Heap) (n i : Nat) : Option AV := cellOf (h.get n) i
/-- No cell of the row is shared with a string. -/
def okfz (fz : Nat × Nat) (n : Nat) : Prop := fz.1 = fz.2 ∨ n ≤ fz.1
/-- A block of the world is as it is told. -/
def repB (ρ : Pm) (f c : Nat) (m : Mta) (cell : Nat → Option AV) (o : Obj) : Prop :=
  match m with
  | .row el z sz opn => ∃ arr fz, o = .cells arr el fz ∧ okfz fz arr.size ∧ (∀ (i : Nat) (x : AV), cell i = some x → ∃ v, arr[f + i]? = some v ∧ x.rp ρ v) ∧
      (opn = true → arr.size = f + c * z ∧ sz ≤ c * z)
  | .mp es => ∃ ms clock, o = .map ms clock ∧ es.length = ms.size ∧ ∀ (i : Nat) (p : AV × AV), es[i]? = some p → ∃ e, ms[i]? = some e ∧ p.1.rp ρ e.key ∧ p.2.rp ρ e.val
  | _ => False
def Mta.live : Mta → Bool
  | .row .. => true
  | .mp _ => true
  | _ => false
/-- It holds a block: what is not told of it may be written. -/
def Mta.held : Mta → Bool
  | .row .. => true
  | .mp _ => true
  | .tok .. => true
  | _ => false
theorem Mta.live_held {m : Mta} (h : m.live = true) : m.held = true := by cases m <;> first | rfl | cases h
/-- A row that grows: its elements are told, and stay; behind them is room. -/
def TokOK (B : Nat) (ρ : Pm) (w : World) (n : Nat) (el : TypeId) (sh : List Sh) (e : Xp) : Prop :=
  (e.den.l = [] ∧ ρ n = none) ∨ ∃ b c arr fz, ρ n = some (b, 0, c) ∧ B ≤ b ∧ w.heap[b]? = some (.cells arr el fz) ∧ okfz fz arr.size ∧ arr.size = c * sh.length ∧ 0 < c * sh.length ∧ e.den.l.length ≤ c ∧
    ∀ i, e.den.l.length * sh.length ≤ i → ρ.fz b i = none
/-- A state tells of a world: from block B on. -/
structure Rep (B : Nat) (ρ : Pm) (h : Heap) (w : World) : Prop where
  size : B ≤ w.heap.size
  live : ∀ n, (mt h n).live = true → ∃ b f c o, ρ n = some (b, f, c) ∧ B ≤ b ∧ w.heap[b]? = some o ∧ repB ρ f c (mt h n) (cl h n) o
  free : ∀ n, mt h n = .none → ρ n = none
  apart : ∀ n m b f c f' c', (mt h n).held = true → (mt h m).held = true → ρ n = some (b, f, c) → ρ m = some (b, f', c') → n = m
  inv : Sy.inv B w
  frz : ∀ b i v, ρ.fz b i = some v → w.cell? ⟨b, i, none⟩ = some v
  sep : ∀ n b f c, (mt h n).live = true → ρ n = some (b, f, c) → ∀ i, ρ.fz b i = none
  tok : ∀ n el sh e, mt h n = .tok el sh e → TokOK B ρ w n el sh e
  low : ∀ b i v, b < B → ρ.fz b i = some v → Sy.low b i = some v
  gho : ∀ b o, Sy.gh b = some o → w.heap[b]? = some o ∧ ∀ n f c, (mt h n).held = true → ρ n ≠ some (b, f, c)
theorem repB_mono {ρ ρ' : Pm} (hr : ρ.le ρ') {f c : Nat} {m : Mta} {cell : Nat → Option AV} {o : Obj} (h : repB ρ f c m cell o) : repB ρ' f c m cell o := by
  cases m with
  | row el z sz opn =>
    obtain ⟨arr, fz, h1, h0, h2, h3⟩ := h
    exact ⟨arr, fz, h1, h0, fun i x hx => let ⟨v, h4, h5⟩ := h2 i x hx; ⟨v, h4, h5.mono hr⟩, h3⟩
  | mp es =>
    obtain ⟨ms, clock, h1, h2, h3⟩ := h
    exact ⟨ms, clock, h1, h2, fun i p hp => let ⟨e, h4, h5, h6⟩ := h3 i p hp; ⟨e, h4, h5.mono hr, h6.mono hr⟩⟩
  | none => exact h
  | tok el sh e => exact h
  | dead => exact h
/-- It tells by what stands at its places alone. -/
theorem Rep.same {B : Nat} {ρ : Pm} {h h' : Heap} {w : World} (hr : Rep B ρ h w) (hm : ∀ n, mt h' n = mt h n) (hc : ∀ n i, cl h' n i = cl h n i) : Rep B ρ h' w := by
  refine ⟨hr.size, fun n hn => ?_, fun n hn => hr.free n ((hm n).symm.trans hn), fun n m b f c f' c' h1 h2 => hr.apart n m b f c f' c' (by rw [← hm]; exact h1) (by rw [← hm]; exact h2), hr.inv, hr.frz, fun n b f c h1 => hr.sep n b f c (by rw [← hm]; exact h1), fun n el sh e h1 => hr.tok n el sh e (by rw [← hm]; exact h1), hr.low, fun b o hb => ⟨(hr.gho b o hb).1, fun n f c h1 => (hr.gho b o hb).2 n f c (by rw [← hm]; exact h1)⟩⟩
  rw [hm] at hn
  obtain ⟨b, f, c, o, h1, h2, h3, h4⟩ := hr.live n hn
  refine ⟨b, f, c, o, h1, h2, h3, ?_⟩
  have : cl h' n = cl h n := funext (hc n)
  rw [hm, this]
  exact h4
/-- A ghost's block is none that a name holds. -/
theorem Rep.gne {B : Nat} {ρ : Pm} {h : Heap} {w : World} (hr : Rep B ρ h w) {n b f c b2 : Nat} {o : Obj} (hl : (mt h n).held = true) (hn : ρ n = some (b, f, c)) (hb : Sy.gh b2 = some o) : b2 ≠ b := fun e => (hr.gho b2 o hb).2 n f c hl (by rw [hn, e])
theorem Rep.glt {B : Nat} {ρ : Pm} {h : Heap} {w : World} (hr : Rep B ρ h w) {b : Nat} {o : Obj} (hb : Sy.gh b = some o) : b < w.heap.size := (Array.getElem?_eq_some_iff.1 (hr.gho b o hb).1).1
theorem cl_held {h : Heap} {n i : Nat} {y : AV} (e : cl h n i = some y) : (mt h n).held = true := by
  unfold cl at e
  unfold mt
  cases hx : h.get n with
  | none => rw [hx] at e; cases e
  | some b =>
    rw [hx] at e
    cases b with
    | row el z sz cs o => rfl
    | _ => cases e
end Go.Proofs.YtdflkikhmngfiaaGreatDoor

