/- What the machine does at an operation. -/
import Derived.Test.YtdflkikhmngfiaaGreatDoorZ03
namespace Go.Proofs.YtdflkikhmngfiaaGreatDoor
open Go.RowKit
set_option linter.unusedVariables false
set_option linter.unusedSimpArgs false
set_option linter.unusedSectionVars false
variable [Sy] [Dc]

/-- A number, made ready. -/
noncomputable def fNat {β : Type} (n : Nat) (g : Nat → β) : β := Nat.rec (motive := fun _ => β) (g 0) (fun m _ => g (Nat.succ m)) n
theorem fNat_eq {β : Type} (n : Nat) (g : Nat → β) : fNat n g = g n := by cases n <;> rfl
noncomputable def fInt {β : Type} (n : Int) (g : Int → β) : β := Int.rec (motive := fun _ => β) (fun m => fNat m fun m => g (.ofNat m)) (fun m => fNat m fun m => g (.negSucc m)) n
theorem fInt_eq {β : Type} (n : Int) (g : Int → β) : fInt n g = g n := by
  cases n with
  | ofNat m => exact fNat_eq m fun m => g (.ofNat m)
  | negSucc m => exact fNat_eq m fun m => g (.negSucc m)
def lim : IntKind → Nat
  | .i8 => 128 | .i16 => 32768 | .i32 => 2147483648 | .i64 => 9223372036854775808
  | .u8 => 256 | .u16 => 65536 | .u32 => 4294967296 | .u64 => 18446744073709551616
noncomputable def wrapF (k : IntKind) (n : Int) : Int := Int.rec (motive := fun _ => Int) (fun m => Bool.rec (motive := fun _ => Int) (k.wrap (.ofNat m)) (.ofNat m) (Nat.blt m (lim k))) (fun m => k.wrap (.negSucc m)) n
noncomputable def ltI (x y : Int) : Bool := Int.rec (motive := fun _ => Bool) (fun a => Int.rec (motive := fun _ => Bool) (fun b => Nat.blt a b) (fun _ => false) y) (fun a => Int.rec (motive := fun _ => Bool) (fun _ => true) (fun b => Nat.blt b a) y) x
noncomputable def eqI (x y : Int) : Bool := Int.rec (motive := fun _ => Bool) (fun a => Int.rec (motive := fun _ => Bool) (fun b => Nat.beq a b) (fun _ => false) y) (fun a => Int.rec (motive := fun _ => Bool) (fun _ => false) (fun b => Nat.beq b a) y) x
noncomputable def iv (k : IntKind) (n : Int) : Option AV := fInt (wrapF k n) fun n => some (.int k n)
def bv (b : Bool) : Option AV := some (.bool b)
noncomputable def intOp (op : BinOp) (k : IntKind) (a b : Int) : Option AV :=
  match op with
  | .add => iv k (Int.add a b)
  | .sub => iv k (Int.sub a b)
  | .mul => iv k (Int.mul a b)
  | .quo => bif eqI b 0 then none else iv k (a.tdiv b)
  | .rem => bif eqI b 0 then none else fInt (a.tmod b) fun n => some (.int k n)
  | .and => iv k (BitVec.ofInt k.bits a &&& BitVec.ofInt k.bits b).toNat
  | .or => iv k (BitVec.ofInt k.bits a ||| BitVec.ofInt k.bits b).toNat
  | .xor => iv k (BitVec.ofInt k.bits a ^^^ BitVec.ofInt k.bits b).toNat
  | .andNot => iv k (BitVec.ofInt k.bits a &&& ~~~ BitVec.ofInt k.bits b).toNat
  | .eql => bv (eqI a b)
  | .neq => bv (!eqI a b)
  | .lss => bv (ltI a b)
  | .leq => bv (!ltI b a)
  | .gtr => bv (ltI b a)
  | .geq => bv (!ltI a b)
  | _ => none
noncomputable def shiftOp (op : BinOp) (k : IntKind) (a b : Int) : Option AV :=
  bif ltI b 0 then none else
  match op with
  | .shl => iv k (Int.mul a (2 ^ (min b.toNat k.bits)))
  | .shr => fInt (a.fdiv (2 ^ (min b.toNat k.bits))) fun n => some (.int k n)
  | _ => none
noncomputable def eqL (a : List Nat) : List Nat → Bool :=
  List.rec (motive := fun _ => List Nat → Bool) (fun b => List.rec (motive := fun _ => Bool) true (fun _ _ _ => false) b) (fun x _ ih b => List.rec (motive := fun _ => Bool) false (fun y m _ => Bool.rec (motive := fun _ => Bool) false (ih m) (Nat.beq x y)) b) a
noncomputable def ltL (a : List Nat) : List Nat → Bool :=
  List.rec (motive := fun _ => List Nat → Bool) (fun b => List.rec (motive := fun _ => Bool) false (fun _ _ _ => true) b) (fun x _ ih b => List.rec (motive := fun _ => Bool) false (fun y m _ => Bool.rec (motive := fun _ => Bool) (Bool.rec (motive := fun _ => Bool) false (ih m) (Nat.beq x y)) true (Nat.blt x y)) b) a
noncomputable def appL {α : Type} (a b : List α) : List α := List.rec (motive := fun _ => List α) b (fun x _ ih => x :: ih) a
/-- A list, made ready to its end. -/
noncomputable def rdyL {α : Type} (a : List α) : List α := List.rec (motive := fun _ => List α) [] (fun x _ ih => List.rec (motive := fun _ => List α) [x] (fun y m _ => x :: y :: m) ih) a
noncomputable def lenL {α : Type} (a : List α) : Nat := List.rec (motive := fun _ => Nat) 0 (fun _ _ ih => fNat ih fun n => Nat.succ n) a
noncomputable def nthL {α : Type} (a : List α) : Nat → Option α := List.rec (motive := fun _ => Nat → Option α) (fun _ => none) (fun x _ ih n => Nat.rec (motive := fun _ => Option α) (some x) (fun n _ => ih n) n) a
noncomputable def dropL {α : Type} (n : Nat) : List α → List α := Nat.rec (motive := fun _ => List α → List α) (fun l => l) (fun _ ih l => List.rec (motive := fun _ => List α) [] (fun _ l _ => ih l) l) n
noncomputable def takeL {α : Type} (n : Nat) : List α → List α := Nat.rec (motive := fun _ => List α → List α) (fun _ => []) (fun _ ih l => List.rec (motive := fun _ => List α) [] (fun x l _ => x :: ih l) l) n
noncomputable def sv (l : List Nat) : Option AV := some (.str (rdyL l))
noncomputable def strOp (op : BinOp) (a b : List Nat) : Option AV :=
  match op with
  | .add => bif Nat.blt (Nat.add (lenL a) (lenL b)) 1000000 then sv (appL a b) else none
  | .eql => bv (eqL a b)
  | .neq => bv (!eqL a b)
  | .lss => bv (ltL a b)
  | .leq => bv (ltL a b || eqL a b)
  | .gtr => bv (!(ltL a b || eqL a b))
  | .geq => bv (!ltL a b)
  | _ => none
/-- Whether two keys are one. -/
noncomputable def eqV (x y : AV) : Option Bool :=
  match x, y with
  | .int k a, .int k' b => bif decide (k = k') then some (eqI a b) else none
  | .bool a, .bool b => some (a == b)
  | .str a, .str b => some (eqL a b)
  | _, _ => none
/-- Whether two expressions are one. -/
noncomputable def eqX (a : Xp) : Xp → Bool :=
  Xp.rec (motive := fun _ => Xp → Bool)
    (fun i b => match b with | .var j => Nat.beq i j | _ => false)
    (fun n b => match b with | .int m => eqI n m | _ => false)
    (fun c b => match b with | .bool d => c == d | _ => false)
    (fun l b => match b with | .str m => eqL l m | _ => false)
    (fun op k _ _ ia ib b => match b with | .bin op' k' c d => decide (op = op') && (decide (k = k') && (ia c && ib d)) | _ => false)
    (fun k _ ia b => match b with | .wrap k' c => decide (k = k') && ia c | _ => false)
    (fun op _ _ ia ib b => match b with | .cmpi op' c d => decide (op = op') && (ia c && ib d) | _ => false)
    (fun _ _ ia ib b => match b with | .eqs c d => ia c && ib d | _ => false)
    (fun _ _ ia ib b => match b with | .eqb c d => ia c && ib d | _ => false)
    (fun _ ia b => match b with | .not c => ia c | _ => false)
    (fun _ _ ia ib b => match b with | .cat c d => ia c && ib d | _ => false)
    (fun _ ia b => match b with | .lens c => ia c | _ => false)
    (fun _ ia b => match b with | .lenl c => ia c | _ => false)
    (fun _ _ ia ib b => match b with | .at c d => ia c && ib d | _ => false)
    (fun _ _ _ ia ib ic b => match b with | .subs c d e => ia c && (ib d && ic e) | _ => false)
    (fun _ _ _ ia ib ic b => match b with | .subl c d e => ia c && (ib d && ic e) | _ => false)
    (fun _ _ ia ib b => match b with | .inb c d => ia c && ib d | _ => false)
    (fun _ _ _ ia ib ic b => match b with | .rng c d e => ia c && (ib d && ic e) | _ => false)
    (fun _ _ z j ia ib b => match b with | .get c d y i => Nat.beq z y && (Nat.beq j i && (ia c && ib d)) | _ => false)
    (fun _ j ia b => match b with | .cell c i => Nat.beq j i && ia c | _ => false)
    (fun f _ ia b => match b with | .app g c => Nat.beq f g && ia c | _ => false)
    (fun b => match b with | .nil => true | _ => false)
    (fun _ _ ia ib b => match b with | .cons c d => ia c && ib d | _ => false)
    (fun b => match b with | .lnil => true | _ => false)
    (fun _ _ ia ib b => match b with | .snoc c d => ia c && ib d | _ => false)
    (fun _ _ ia ib b => match b with | .catl c d => ia c && ib d | _ => false)
    (fun _ ia b => match b with | .ofB c => ia c | _ => false)
    (fun _ ia b => match b with | .toB c => ia c | _ => false) a
/-- A number of a kind, a text, a truth value, as an expression. -/
def xi (x : AV) : Option (IntKind × Xp) := match x with
  | .int k n => some (k, .int n)
  | .sx (.int k) e => some (k, e)
  | _ => none
def xs (x : AV) : Option Xp := match x with
  | .str l => some (.str l)
  | .sx .str e => some e
  | _ => none
def xb (x : AV) : Option Xp := match x with
  | .bool b => some (.bool b)
  | .sx .bool e => some e
  | _ => none
/-- Whether two are one, as it is decided. -/
noncomputable def eqD (d : TypeDesc) (x y : AV) : Option Bool :=
  match d with
  | .int _ => (xi x).bind fun p => (xi y).bind fun q => bif decide (p.1 = q.1) then (bif eqX p.2 q.2 then some true else Dc.dec (.cmpi .eql p.2 q.2)) else none
  | .string => (xs x).bind fun p => (xs y).bind fun q => bif eqX p q then some true else Dc.dec (.eqs p q)
  | .bool => (xb x).bind fun p => (xb y).bind fun q => bif eqX p q then some true else Dc.dec (.eqb p q)
  | _ => none
/-- Whether two values of one cell are one: by the type's kind. -/
noncomputable def eqC (d : TypeDesc) (x y : AV) : Option Bool :=
  match d, x, y with
  | .int _, .int k a, .int k' b => bif decide (k = k') then some (eqI a b) else none
  | .bool, .bool a, .bool b => some (a == b)
  | .string, .str a, .str b => some (eqL a b)
  | .pointer _, .nilp, .nilp => some true
  | .pointer _, .nilp, .ptr _ _ => some false
  | .pointer _, .ptr _ _, .nilp => some false
  | .slice _, .nils, .nils => some true
  | .slice _, .nils, .sl _ _ _ _ => some false
  | .slice _, .nils, .os _ _ _ _ => some false
  | .slice _, .sl _ _ _ _, .nils => some false
  | .slice _, .os _ _ _ _, .nils => some false
  | .slice _, .nils, .emp => some false
  | .slice _, .emp, .nils => some false
  | .slice _, .nils, .oe _ _ _ => some false
  | .slice _, .oe _ _ _, .nils => some false
  | .map _ _, .nilm, .nilm => some true
  | .map _ _, .nilm, .map _ => some false
  | .map _ _, .map _, .nilm => some false
  | .func _ _ _, .nilf, .nilf => some true
  | .func _ _ _, .nilf, .func _ _ _ => some false
  | .func _ _ _, .func _ _ _, .nilf => some false
  | .interface _, .nili, .nili => some true
  | .interface _, .nili, .iface _ _ => some false
  | .interface _, .iface _ _, .nili => some false
  | d, x, y => eqD d x y
def isAggB (P : Program) (t : TypeId) : Option Bool :=
  match P.underlying t with
  | some (.struct _) => some true
  | some (.array _ _) => some true
  | some _ => some false
  | none => none
def szO (P : Program) (t : TypeId) : Option Nat := (P.info? t).map (·.size)
def zeroO (P : Program) (t : TypeId) : Option AV := ((P.info? t).bind (·.zero)).bind ofV
/-- A part of cells. -/
noncomputable def partV (P : Program) (t : TypeId) (l : List AV) (off : Nat) : Option AV :=
  (isAggB P t).bind fun b => Bool.rec (motive := fun _ => Option AV) (nthL l off) ((szO P t).bind fun k => bif Nat.ble (Nat.add off k) (lenL l) then some (.agg (rdyL (takeL k (dropL off l)))) else none) b
noncomputable def eqFs (P : Program) (eq : TypeId → AV → AV → Option Bool) (a b : List AV) (fs : List Field) : Option Bool :=
  List.rec (motive := fun _ => Option Bool) (some true) (fun f _ ih => bif decide (f.name = "_") then none else (partV P f.type a f.offset).bind fun x => (partV P f.type b f.offset).bind fun y => (eq f.type x y).bind fun r => Bool.rec (motive := fun _ => Option Bool) (some false) ih r) fs
noncomputable def eqEs (P : Program) (eq : TypeId → AV → AV → Option Bool) (e : TypeId) (k : Nat) (a b : List AV) (is : List Nat) : Option Bool :=
  List.rec (motive := fun _ => Option Bool) (some true) (fun i _ ih => (partV P e a (Nat.mul i k)).bind fun x => (partV P e b (Nat.mul i k)).bind fun y => (eq e x y).bind fun r => Bool.rec (motive := fun _ => Option Bool) (some false) ih r) is
noncomputable def eqS (P : Program) (ih : TypeId → AV → AV → Option Bool) (t : TypeId) (x y : AV) : Option Bool :=
  match P.underlying t, x, y with
  | some (.struct fs), .agg a, .agg b => bif P.stoodInHeld t then none else eqFs P ih a b fs.toList
  | some (.array n e), .agg a, .agg b => (szO P e).bind fun k => eqEs P ih e k a b (List.range n)
  | some d, x, y => eqC d x y
  | none, _, _ => none
/-- Whether two values of a type are one. -/
noncomputable def eqT (P : Program) (d : Nat) : TypeId → AV → AV → Option Bool :=
  Nat.rec (motive := fun _ => TypeId → AV → AV → Option Bool) (fun _ _ _ => none) (fun _ ih => eqS P ih) d
def guardB (P : Program) (t : TypeId) (xc yc : Bool) (x y : AV) : Bool :=
  match x, y with
  | .sx _ _, _ => false
  | _, .sx _ _ => false
  | .nili, .nili => xc || yc
  | .agg _, .agg _ => !P.eqGuardType P.depth t
  | _, _ => true
noncomputable def binV (P : Program) (op : BinOp) (t : TypeId) (xc yc : Bool) (x y : AV) : Option AV :=
  match x, y with
  | .int k a, .int k' b =>
    match op with
    | .shl => shiftOp .shl k a b
    | .shr => shiftOp .shr k a b
    | op => bif decide (k = k') then intOp op k a b else none
  | .str a, .str b => strOp op a b
  | x, y => bif guardB P t xc yc x y then
    match op with
    | .eql => (eqT P 10000 t x y).bind bv
    | .neq => (eqT P 10000 t x y).bind fun b => bv (!b)
    | _ => none
    else none
/-- What is not decided, where two values are compared. -/
def askC (x y : AV) : List Nat := match xi x, xi y with
  | some p, some q => (Xp.cmpi .eql p.2 q.2).enc []
  | _, _ => match xs x, xs y with
    | some p, some q => (Xp.eqs p q).enc []
    | _, _ => match xb x, xb y with
      | some p, some q => (Xp.eqb p q).enc []
      | _, _ => []
def isLit : AV → Bool
  | .sx _ _ => false
  | _ => true
noncomputable def decd (x y : AV) : Bool := match xi x, xi y with
  | some p, some q => (isLit x && isLit y) || (eqX p.2 q.2 || (Dc.dec (.cmpi .eql p.2 q.2)).isSome)
  | _, _ => match xs x, xs y with
    | some p, some q => (isLit x && isLit y) || (eqX p q || (Dc.dec (.eqs p q)).isSome)
    | _, _ => match xb x, xb y with
      | some p, some q => (isLit x && isLit y) || (eqX p q || (Dc.dec (.eqb p q)).isSome)
      | _, _ => true
noncomputable def askE (x y : AV) : List Nat := match x, y with
  | .agg a, .agg b => List.rec (motive := fun _ => List AV → List Nat) (fun _ => [122]) (fun x _ ih m => List.rec (motive := fun _ => List Nat) [122] (fun y m _ => Bool.rec (motive := fun _ => List Nat) (88 :: askC x y) (ih m) (decd x y)) m) a b
  | _, _ => [122]
/-- Cells of a block, one behind the other, each told by itself. -/
noncomputable def rdCs (n : Nat) (k : Nat) : Nat → M (List AV) :=
  Nat.rec (motive := fun _ => Nat → M (List AV)) (fun _ => ret []) (fun _ ih o => bnd (rdC n o) fun x => bnd (ih (Nat.succ o)) fun l => ret (x :: l)) k
noncomputable def wrCs (n : Nat) (l : List AV) : Nat → M Unit :=
  List.rec (motive := fun _ => Nat → M Unit) (fun _ => ret ()) (fun x _ ih o => want x.one 20 (bnd (wrC n o x) fun _ => ih (Nat.succ o))) l
noncomputable def loadM (P : Program) (t : TypeId) (x : AV) : M AV :=
  match x with
  | .ptr n o => need (isAggB P t) 21 fun b => Bool.rec (motive := fun _ => M AV) (rdC n o) (need (szO P t) 22 fun k => bnd (rdCs n k o) fun l => ret (.agg l)) b
  | _ => fail [23]
noncomputable def storeM (P : Program) (t : TypeId) (x v : AV) : M AV :=
  match x with
  | .ptr n o => need (szO P t) 24 fun k => want (Nat.beq (lenL v.cells) k) 25 (bnd (wrCs n v.cells o) fun _ => ret (.tup []))
  | _ => fail [26]
noncomputable def newRowM (el : TypeId) (z : Nat) (l : List AV) (o : Bool) : M Nat := new (.row el z (lenL l) (Tr.ofList l) o)
noncomputable def boxM (el : TypeId) (v : AV) : M AV := want (v.cells.all AV.one) 27 (bnd (newRowM el 1 v.cells false) fun n => ret (.ptr n 0))
def flds (P : Program) (t : TypeId) : Option (Array Field) :=
  match P.underlying t with
  | some (.struct fs) => some fs
  | _ => none
noncomputable def fieldV (P : Program) (t : TypeId) (x : AV) (f : Nat) : Option AV :=
  match x with
  | .agg l => (flds P t).bind fun fs => (fs[f]?).bind fun f => partV P f.type l f.offset
  | _ => none
noncomputable def fieldAddrV (P : Program) (t : TypeId) (x : AV) (f : Nat) : Option AV :=
  match x with
  | .ptr n o => (flds P t).bind fun fs => (fs[f]?).bind fun f => (szO P f.type).bind fun k => bif Nat.beq k 0 then none else fNat (Nat.add o f.offset) fun o => some (.ptr n o)
  | _ => none
def elS (P : Program) (t : TypeId) : Option TypeId :=
  match P.underlying t with
  | some (.slice e) => some e
  | _ => none
def elA (P : Program) (t : TypeId) : Option (Nat × TypeId) :=
  match P.underlying t with
  | some (.array n e) => some (n, e)
  | _ => none
/-- A number from 0 on, below another one. -/
noncomputable def inI (i : Int) (n : Nat) : Option Nat := Int.rec (motive := fun _ => Option Nat) (fun i => bif Nat.blt i n then some i else none) (fun _ => none) i
noncomputable def indexAddrV (P : Program) (t : TypeId) (x y : AV) : Option AV :=
  match y with
  | .int _ i =>
    match x with
    | .ptr n o => (elA P t).bind fun p => (inI i p.1).bind fun i => (szO P p.2).bind fun k => fNat (Nat.add o (Nat.mul i k)) fun o => some (.ptr n o)
    | .sl n o len _ => (elS P t).bind fun e => (inI i len).bind fun i => (szO P e).bind fun k => fNat (Nat.add o (Nat.mul i k)) fun o => some (.ptr n o)
    | .os n z e len => (elS P t).bind fun el => (inI i len).bind fun i => (szO P el).bind fun k => bif Nat.beq k z then fNat (Nat.mul (Nat.add e i) k) fun o => some (.ptr n o) else none
    | _ => none
  | _ => none
noncomputable def indexV (P : Program) (t : TypeId) (x y : AV) : Option AV :=
  match y with
  | .int _ i =>
    match x with
    | .str l =>
      match P.underlying t with
      | some .string => Int.rec (motive := fun _ => Option AV) (fun i => (nthL l i).bind fun b => some (.int .u8 (.ofNat b))) (fun _ => none) i
      | _ => none
    | .agg l => (elA P t).bind fun p => (inI i p.1).bind fun i => (szO P p.2).bind fun k => partV P p.2 l (Nat.mul i k)
    | _ => none
  | _ => none
/-- A bound: the default, or a number that is not above y. -/
noncomputable def bnd1 (d : Nat) (v : Option AV) (y : Nat) : Option Nat :=
  match v with
  | none => some d
  | some (.int _ i) => inI i (Nat.succ y)
  | _ => none
def okm (hi mx : Option AV) : Bool :=
  match hi, mx with
  | none, some _ => false
  | _, _ => true
noncomputable def sliceV (P : Program) (t : TypeId) (x : AV) (lo hi mx : Option AV) : Option AV :=
  bif okm hi mx then
  match x with
  | .str l =>
    match P.underlying t, mx with
    | some .string, none => fNat (lenL l) fun n => (bnd1 n hi n).bind fun h => (bnd1 0 lo h).bind fun lo => sv (takeL (Nat.sub h lo) (dropL lo l))
    | _, _ => none
  | .nils => (elS P t).bind fun e => (szO P e).bind fun _ => (bnd1 0 mx 0).bind fun m => (bnd1 0 hi m).bind fun h => (bnd1 0 lo h).bind fun _ => some .nils
  | .emp =>
    match mx with
    | none => (elS P t).bind fun e => (szO P e).bind fun _ => (bnd1 0 hi 0).bind fun h => (bnd1 0 lo h).bind fun _ => some .emp
    | _ => none
  | .oe n z f =>
    match mx with
    | none => (elS P t).bind fun e => (szO P e).bind fun _ => (bnd1 0 hi 0).bind fun h => (bnd1 0 lo h).bind fun _ => some (.oe n z f)
    | _ => none
  | .sl n o len cap => (elS P t).bind fun e => (szO P e).bind fun k => (bnd1 cap mx cap).bind fun m => (bnd1 len hi m).bind fun h => (bnd1 0 lo h).bind fun l =>
      fNat (Nat.sub h l) fun len' => fNat (Nat.sub m l) fun cap' => bif Nat.beq m l then some (.sl n o len' cap') else fNat (Nat.add o (Nat.mul l k)) fun o => some (.sl n o len' cap')
  | .os n z e len =>
    match mx with
    | none => (elS P t).bind fun el => (szO P el).bind fun k => bif Nat.beq k z then (bnd1 len hi len).bind fun h => (bnd1 0 lo h).bind fun l =>
        bif Nat.beq l 0 then some (.os n z e h) else bif Nat.beq h l then fNat (Nat.add e l) (fun e => some (.oe n z e)) else fNat (Nat.sub h l) fun len' => fNat (Nat.add e l) fun e => some (.os n z e len') else none
    | some (.int _ i) => (elS P t).bind fun el => (szO P el).bind fun k => bif Nat.beq k z then (inI i (Nat.succ len)).bind fun m => (bnd1 len hi m).bind fun h => (bnd1 0 lo h).bind fun l =>
        fNat (Nat.sub h l) fun len' => fNat (Nat.sub m l) fun cap' => bif Nat.beq m l then fNat (Nat.mul e k) fun o => some (.sl n o len' cap') else fNat (Nat.mul (Nat.add e l) k) fun o => some (.sl n o len' cap') else none
    | _ => none
  | .ptr n o =>
    match P.underlying t with
    | some (.array len e) => (szO P e).bind fun k => (bnd1 len mx len).bind fun m => (bnd1 len hi m).bind fun h => (bnd1 0 lo h).bind fun l =>
      fNat (Nat.sub h l) fun len' => fNat (Nat.sub m l) fun cap' => bif Nat.beq m l then some (.sl n o len' cap') else fNat (Nat.add o (Nat.mul l k)) fun o => some (.sl n o len' cap')
    | _ => none
  | _ => none
  else none
noncomputable def lenV (x : AV) : Option Nat :=
  match x with
  | .str l => some (lenL l)
  | .nils => some 0
  | .sl _ _ len _ => some len
  | .os _ _ _ len => some len
  | .emp => some 0
  | .oe _ _ _ => some 0
  | .nilm => some 0
  | _ => none
def isU8 (P : Program) (e : TypeId) : Bool :=
  match P.underlying e with
  | some (.int .u8) => true
  | _ => false
def slU8 (P : Program) (d : TypeDesc) : Bool :=
  match d with
  | .slice e => isU8 P e
  | _ => false
def bytS (x : AV) (o : Option (List Nat)) : Option (List Nat) :=
  match x with
  | .int .u8 (.ofNat b) => o.bind fun m => some ((b % 256) :: m)
  | _ => none
/-- The bytes of cells. -/
noncomputable def bytL (l : List AV) : Option (List Nat) :=
  List.rec (motive := fun _ => Option (List Nat)) (some []) (fun x _ ih => bytS x ih) l
noncomputable def strM (l : List AV) : M AV := need (bytL l) 32 fun m => need (sv m) 33 fun x => ret x
noncomputable def rowOK (n : Nat) (x : AV) : M AV := bnd (rdM n) fun m => match m with
  | .row _ _ _ _ => ret x
  | _ => fail [39]
noncomputable def convV (P : Program) (s d : TypeId) (x : AV) : M AV :=
  need (P.underlying s) 40 fun us => need (P.underlying d) 41 fun ud =>
  match ud, x with
  | .int k, .int _ n => need (iv k n) 30 fun x => ret x
  | .string, .str l => ret (.str l)
  | .slice e, .str l => want (isU8 P e) 31 <| bnd (newRowM e 1 (l.map fun b => .int .u8 (.ofNat b)) true) fun n => fNat (lenL l) fun k => ret (.os n 1 0 k)
  | .slice e, .os n z f len => want (slU8 P us && (Nat.beq s d && isU8 P e)) 38 (rowOK n (.os n z f len))
  | .slice e, .sl n o len cap => want (slU8 P us && (Nat.beq s d && isU8 P e)) 38 (rowOK n (.sl n o len cap))
  | .string, .nils => want (slU8 P us) 36 (ret (.str []))
  | .string, .emp => want (slU8 P us) 36 (ret (.str []))
  | .string, .oe _ _ _ => want (slU8 P us) 36 (ret (.str []))
  | .string, .sl n o len _ => want (slU8 P us) 36 (bnd (rdCs n len o) strM)
  | .string, .os n z e len => want (slU8 P us && Nat.beq z 1) 36 (bnd (rdCs n len e) strM)
  | _, _ => fail [37, s, d]
end Go.Proofs.YtdflkikhmngfiaaGreatDoor

