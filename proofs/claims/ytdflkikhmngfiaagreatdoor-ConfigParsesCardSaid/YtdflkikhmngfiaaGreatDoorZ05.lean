/- The machine: builtins, calls, code. -/
import Derived.Test.YtdflkikhmngfiaaGreatDoorZ04
namespace Go.Proofs.YtdflkikhmngfiaaGreatDoor
open Go.RowKit
set_option linter.unusedVariables false
set_option linter.unusedSimpArgs false
set_option linter.unusedSectionVars false
variable [Sy] [Dc]

def notup : AV → Bool
  | .tup _ => false
  | _ => true
noncomputable def repL {α : Type} (n : Nat) (x : List α) : List α := Nat.rec (motive := fun _ => List α) [] (fun _ ih => appL x ih) n
/-- The cells of what is appended or copied: n elements. -/
noncomputable def srcM (k : Nat) (x : AV) (n : Nat) : M (List AV) :=
  match x with
  | .nils => ret []
  | .emp => ret []
  | .oe _ _ _ => ret []
  | .str l => want (Nat.beq k 1) 60 (ret ((takeL n l).map fun b => .int .u8 (.ofNat b)))
  | .sl m o _ _ => rdCs m (Nat.mul n k) o
  | .os m z e _ => bif Nat.beq z k then rdCs m (Nat.mul n k) (Nat.mul e z) else fail [60]
  | _ => fail [61]
def notnm : AV → Bool
  | .nilm => false
  | _ => true
/-- How many elements there are to append; a number tells so many zero ones: none. -/
noncomputable def cntV (P : Program) (t : TypeId) (x : AV) : Option Nat :=
  match P.underlying t, x with
  | some (.int _), .int .i64 (.ofNat 0) => some 0
  | some (.slice _), x => bif notnm x then lenV x else none
  | some .string, x => bif notnm x then lenV x else none
  | _, _ => none
noncomputable def app0 (s : AV) : M AV :=
  match s with
  | .nils => ret .nils
  | .emp => ret .emp
  | .oe n z e => ret (.oe n z e)
  | .os m z f len => ret (.os m z f len)
  | .sl m o len cap => want (Nat.ble len cap) 62 (ret (.sl m o len cap))
  | _ => fail [62]
/-- Behind the end of a row that may have room: where it lies is not known then. -/
noncomputable def appEnd (e : TypeId) (k m f len n : Nat) (x : AV) (z : Nat) (mm : Mta) : M AV :=
  match mm with
  | .row el z2 sz true => want (Nat.beq z k && (Nat.beq z2 k && (Nat.beq el e && Nat.beq (Nat.mul (Nat.add f len) k) sz))) 68 <|
      bnd (srcM k x n) fun l => want (l.all AV.one) 68 <| bnd (rdL m (Nat.mul len k) (Nat.mul f k)) fun old => bnd (wrB m .dead) fun _ => bnd (newRowM e k (appL old l) true) fun c => fNat (Nat.add len n) fun nd => ret (.os c k 0 nd)
  | _ => fail [69]
noncomputable def app1 (e : TypeId) (k : Nat) (s x : AV) (n : Nat) : M AV :=
  match s with
  | .nils => bnd (srcM k x n) fun l => bnd (newRowM e k l true) fun c => ret (.os c k 0 n)
  | .sl m o len cap => fNat (Nat.add len n) fun nd => bif Nat.ble nd cap then bnd (srcM k x n) (fun l => bnd (wrCs m l (Nat.add o (Nat.mul len k))) fun _ => ret (.sl m o nd cap))
      else bnd (rdCs m (Nat.mul len k) o) fun old => bnd (srcM k x n) fun l => bnd (newRowM e k (appL old l) true) fun c => ret (.os c k 0 nd)
  | .os m z f len => bnd (rdM m) fun mm => appEnd e k m f len n x z mm
  | .oe m z f => bnd (rdM m) fun mm => appEnd e k m f 0 n x z mm
  | _ => fail [70]
noncomputable def appM (P : Program) (ts : Array TypeId) (s x : AV) : M AV :=
  need (ts[0]?) 63 fun t0 => need (ts[1]?) 63 fun t1 => want (Nat.beq ts.size 2) 63 <| need (elS P t0) 64 fun e => need (szO P e) 64 fun k => need (zeroO P e) 65 fun z =>
  need (cntV P t1 x) 66 fun n => bif Nat.beq n 0 then app0 s else want (Nat.ble (P.bytesOf e) 10000 && (Nat.ble n 100000 && (Nat.beq (lenL z.cells) k && notup z))) 67 <| need (lenV s) 67 fun q => want (Nat.ble q 100000) 67 <| app1 e k s x n
noncomputable def copyM (P : Program) (ts : Array TypeId) (d x : AV) : M AV :=
  need ((ts[0]?).bind (elS P)) 72 fun e => need (szO P e) 73 fun k => need (lenV x) 74 fun n => want (notnm x) 74 <|
  match d with
  | .sl m o len _ => fNat (Nat.min n len) fun q => bnd (srcM k x q) fun l => bnd (wrCs m l o) fun _ => ret (.int .i64 (.ofNat q))
  | .os m z f len => want (Nat.beq z k) 75 <| fNat (Nat.min n len) fun q => bnd (srcM k x q) fun l => bnd (wrCs m l (Nat.mul f k)) fun _ => ret (.int .i64 (.ofNat q))
  | _ => fail [76]
/-- A key of the kind. -/
def keyV (d : TypeDesc) (x : AV) : Bool :=
  match d, x with
  | .int k, .int k' _ => decide (k' = k)
  | .string, .str _ => true
  | .bool, .bool _ => true
  | .int k, .sx (.int k') _ => decide (k' = k)
  | .string, .sx .str _ => true
  | _, _ => false
def mapT (P : Program) (t : TypeId) : Option (TypeDesc × TypeId) :=
  match P.underlying t with
  | some (.map k e) => (P.underlying k).map fun d => (d, e)
  | _ => none
/-- An entry's place, and its value. -/
noncomputable def findE (d : TypeDesc) (k : AV) (es : List (AV × AV)) : Nat → Option (Option (Nat × AV)) :=
  List.rec (motive := fun _ => Nat → Option (Option (Nat × AV))) (fun _ => some none) (fun p _ ih i => Option.rec (motive := fun _ => Option (Option (Nat × AV))) none (fun b => Bool.rec (motive := fun _ => Option (Option (Nat × AV))) (ih (Nat.succ i)) (some (some (i, p.2))) b) (eqC d k p.1)) es
noncomputable def entM (n : Nat) (g : List (AV × AV) → M AV) : M AV := bnd (rdM n) fun m => match m with
  | .mp es => g es
  | _ => fail [80]
noncomputable def noM (P : Program) (e : TypeId) (ok : Bool) : M AV := need (zeroO P e) 82 fun z => ret (bif ok then .tup [z, .bool false] else z)
noncomputable def lookE (P : Program) (e : TypeId) (ok : Bool) (r : Option (Nat × AV)) : M AV :=
  match r with
  | some p => ret (bif ok then .tup [p.2, .bool true] else p.2)
  | none => noM P e ok
noncomputable def lookM (P : Program) (t : TypeId) (x k : AV) (ok : Bool) : M AV :=
  need (mapT P t) 81 fun p => want (keyV p.1 k) 81 <|
  match x with
  | .nilm => noM P p.2 ok
  | .map n => entM n fun es => need (findE p.1 k es 0) 83 fun r => lookE P p.2 ok r
  | _ => fail [84]
def setE (l : List (AV × AV)) (i : Nat) (k v : AV) : List (AV × AV) := l.set i (k, v)
noncomputable def updE (n : Nat) (es : List (AV × AV)) (k v : AV) (r : Option (Nat × AV)) : M AV :=
  match r with
  | some p => bnd (wrB n (.mp (setE es p.1 k v))) fun _ => ret (.tup [])
  | none => bnd (wrB n (.mp (appL es [(k, v)]))) fun _ => ret (.tup [])
noncomputable def updM (P : Program) (t : TypeId) (x k v : AV) : M AV :=
  need (mapT P t) 85 fun p => want (keyV p.1 k) 85 <|
  match x with
  | .map n => entM n fun es => need (findE p.1 k es 0) 86 fun r => updE n es k v r
  | _ => fail [87]
noncomputable def delE (n : Nat) (es : List (AV × AV)) (r : Option (Nat × AV)) : M AV :=
  match r with
  | some p => bnd (wrB n (.mp (es.eraseIdx p.1))) fun _ => ret (.tup [])
  | none => ret (.tup [])
noncomputable def delM (P : Program) (t : TypeId) (x k : AV) : M AV :=
  need (mapT P t) 88 fun p => want (keyV p.1 k) 88 <|
  match x with
  | .nilm => ret (.tup [])
  | .map n => entM n fun es => need (findE p.1 k es 0) 89 fun r => delE n es r
  | _ => fail [90]
noncomputable def min2V (x y : AV) : Option AV :=
  match x, y with
  | .int k a, .int _ b => some (.int k (bif ltI b a then b else a))
  | _, _ => none
noncomputable def max2V (x y : AV) : Option AV :=
  match x, y with
  | .int k a, .int _ b => some (.int k (bif ltI a b then b else a))
  | _, _ => none
noncomputable def foldV (f : AV → AV → Option AV) (l : List AV) : AV → Option AV := List.rec (motive := fun _ => AV → Option AV) (fun x => some x) (fun y _ ih x => (f x y).bind ih) l
def isSl : AV → Bool
  | .nils => true
  | .emp => true
  | .oe _ _ _ => true
  | .sl _ _ _ _ => true
  | .os _ _ _ _ => true
  | _ => false
noncomputable def goI (n : Nat) : M AV := fNat n fun n => ret (.int .i64 (.ofNat n))
noncomputable def lenM (P : Program) (d : TypeDesc) (x : AV) : M AV :=
  match d, x with
  | .string, .str l => goI (lenL l)
  | .slice _, x => want (isSl x) 93 (need (lenV x) 93 goI)
  | .array n _, _ => goI n
  | .pointer a, _ => need (elA P a) 91 fun p => goI p.1
  | .map _ _, .nilm => goI 0
  | .map _ _, .map n => entM n fun es => goI (lenL es)
  | _, _ => fail [93]
noncomputable def capM (d : TypeDesc) (x : AV) : M AV :=
  match d, x with
  | .slice _, .nils => goI 0
  | .slice _, .sl _ _ _ cap => goI cap
  | _, _ => fail [94]
noncomputable def zeroAt (P : Program) (e : TypeId) (m o len : Nat) : M AV := need (zeroO P e) 97 fun z => want (notup z) 97 (bnd (wrCs m (rdyL (repL len z.cells)) o) fun _ => ret (.tup []))
noncomputable def clearM (P : Program) (d : TypeDesc) (x : AV) : M AV :=
  match d, x with
  | .slice _, .nils => ret (.tup [])
  | .slice _, .emp => ret (.tup [])
  | .slice _, .oe _ _ _ => ret (.tup [])
  | .slice e, .sl m o len _ => bif Nat.beq len 0 then ret (.tup []) else zeroAt P e m o len
  | .slice e, .os m z f len => bif Nat.beq len 0 then ret (.tup []) else zeroAt P e m (Nat.mul f z) len
  | _, .nilm => ret (.tup [])
  | _, .map n => entM n fun _ => bnd (wrB n (.mp [])) fun _ => ret (.tup [])
  | _, _ => fail [96]
/-- A list that is told. -/
def xl (x : AV) : Option (List Sh × Xp) := match x with
  | .sx (.lst el) e => some (el, e)
  | .ol _ el e => some (el, e)
  | _ => none
def isB (el : List Sh) : Bool := match el with
  | [.int .u8] => true
  | _ => false
/-- Shapes are one. -/
noncomputable def eqSh (s : Sh) : Sh → Bool :=
  Sh.rec (motive_1 := fun _ => Sh → Bool) (motive_2 := fun _ => List Sh → Bool)
    (fun k t => match t with | .int k' => decide (k = k') | _ => false)
    (fun t => match t with | .bool => true | _ => false)
    (fun t => match t with | .str => true | _ => false)
    (fun _ ih t => match t with | .lst m => ih m | _ => false)
    (fun m => match m with | [] => true | _ => false)
    (fun _ _ ih1 ih2 m => match m with | y :: m => ih1 y && ih2 m | _ => false) s
noncomputable def eqShs (l : List Sh) : List Sh → Bool := List.rec (motive := fun _ => List Sh → Bool) (fun m => match m with | [] => true | _ => false) (fun x _ ih m => match m with | y :: m => eqSh x y && ih m | _ => false) l
/-- A value of one cell, as an expression, if it is of the shape. -/
noncomputable def matS (s : Sh) (x : AV) : Option Xp :=
  match s with
  | .int k => (xi x).bind fun p => bif decide (p.1 = k) then some p.2 else none
  | .str => xs x
  | .bool => xb x
  | .lst el => match x with
    | .nils => some .lnil
    | .emp => some .lnil
    | x => (xl x).bind fun p => bif eqShs p.1 el then some p.2 else none
noncomputable def matC (l : List Sh) : List AV → Option Xp := List.rec (motive := fun _ => List AV → Option Xp) (fun m => match m with | [] => some .nil | _ => none) (fun s _ ih m => match m with | x :: m => (matS s x).bind fun e => (ih m).bind fun r => some (.cons e r) | _ => none) l
/-- A row of cells, as an expression. -/
noncomputable def matRow (el : List Sh) (l : List AV) : Option Xp := match el with
  | [s] => match l with
    | [x] => matS s x
    | _ => none
  | el => matC el l
/-- Rows behind a list. -/
noncomputable def rowsX (el : List Sh) (k : Nat) (n : Nat) : Xp → List AV → Option Xp :=
  Nat.rec (motive := fun _ => Xp → List AV → Option Xp) (fun ex l => match l with | [] => some ex | _ => none) (fun _ ih ex l => (matRow el (takeL k l)).bind fun r => ih (.snoc ex r) (dropL k l)) n
noncomputable def preD (c : Xp) (g : M AV) : M AV := Option.rec (motive := fun _ => M AV) (fail (88 :: c.enc [])) (fun b => Bool.rec (motive := fun _ => M AV) (fail [302]) g b) (Dc.dec c)
noncomputable def emptyD (src : Xp) (s : AV) (g : M AV) : M AV := Option.rec (motive := fun _ => M AV) (fail (88 :: (Xp.cmpi .eql (.lenl src) (.int 0)).enc [])) (fun b => Bool.rec (motive := fun _ => M AV) g (ret s) b) (Dc.dec (.cmpi .eql (.lenl src) (.int 0)))
noncomputable def elO (s x : AV) : Option (List Sh) := match s with
  | .ol _ el _ => some el
  | _ => match x with
    | .sx .str _ => some [.int .u8]
    | x => (xl x).map (·.1)
def exO (s : AV) : Xp := match s with
  | .ol _ _ e => e
  | _ => .lnil
/-- A list of one's own, or none, goes on. -/
noncomputable def addO (e : TypeId) (el : List Sh) (s : AV) (ex : Xp) : M AV := preD (.rng (.int 0) (.lenl ex) (.int 100000)) <| match s with
  | .nils => bnd (new (.tok e el ex)) fun c => ret (.ol c el ex)
  | .ol m _ ex0 => bnd (rdM m) fun mm => match mm with
    | .tok e2 sh2 ex2 => want (Nat.beq e2 e && (eqShs sh2 el && eqX ex2 ex0)) 310 (bnd (wrB m .dead) fun _ => bnd (new (.tok e el ex)) fun c => ret (.ol c el ex))
    | _ => fail [311]
  | _ => fail [312]
noncomputable def strT (P : Program) (t : TypeId) : Bool := match P.underlying t with
  | some .string => true
  | _ => false
noncomputable def srcL (P : Program) (t1 e : TypeId) (el : List Sh) (s : AV) (p : List Sh × Xp) : M AV := want ((elS P t1).isSome && eqShs p.1 el) 313 (emptyD p.2 s (addO e el s (.catl (exO s) p.2)))
noncomputable def srcN (P : Program) (t1 e : TypeId) (el : List Sh) (k : Nat) (s x : AV) : M AV :=
  match x with
  | .sx .str a => want (strT P t1 && isB el) 314 (emptyD (.toB a) s (addO e el s (.catl (exO s) (.toB a))))
  | x => need (cntV P t1 x) 315 fun n => bif Nat.beq n 0 then ret s else bnd (srcM k x n) fun l => need (rowsX el k n (exO s) l) 316 fun ex => addO e el s ex
noncomputable def srcO (P : Program) (t1 e : TypeId) (el : List Sh) (k : Nat) (s x : AV) : M AV := Option.rec (motive := fun _ => M AV) (srcN P t1 e el k s x) (srcL P t1 e el s) (xl x)
noncomputable def appO (P : Program) (ts : Array TypeId) (s x : AV) : M AV :=
  need (ts[0]?) 63 fun t0 => need (ts[1]?) 63 fun t1 => want (Nat.beq ts.size 2) 63 <| need (elS P t0) 64 fun e => need (szO P e) 64 fun k => need (zeroO P e) 65 fun z =>
  want (Nat.ble (P.bytesOf e) 10000 && (Nat.beq (lenL z.cells) k && notup z)) 67 <| need (elO s x) 317 fun el => want (Nat.beq (lenL el) k && !Nat.beq k 0) 318 <| srcO P t1 e el k s x
def isOl (s x : AV) : Bool := match s, x with
  | .ol _ _ _, _ => true
  | .nils, .sx _ _ => true
  | .nils, .ol _ _ _ => true
  | _, _ => false
noncomputable def appA (P : Program) (ts : Array TypeId) (s x : AV) : M AV := Bool.rec (motive := fun _ => M AV) (appM P ts s x) (appO P ts s x) (isOl s x)
noncomputable def builtM (P : Program) (b : Builtin) (ts : Array TypeId) (args : List AV) : M AV :=
  match b, args with
  | .len, [x] => need ((ts[0]?).bind P.underlying) 93 fun d => lenM P d x
  | .cap, [x] => need ((ts[0]?).bind P.underlying) 94 fun d => capM d x
  | .append, [s, x] => appA P ts s x
  | .copy, [d, x] => copyM P ts d x
  | .delete, [m, k] => need (ts[0]?) 95 fun t => delM P t m k
  | .clear, [x] => need ((ts[0]?).bind P.underlying) 96 fun d => clearM P d x
  | .min, x :: l => need (foldV min2V l x) 97 fun x => ret x
  | .max, x :: l => need (foldV max2V l x) 98 fun x => ret x
  | _, _ => fail [99]
noncomputable def makeSliceM (P : Program) (t : TypeId) (l c : AV) : M AV :=
  match l, c with
  | .int _ (.ofNat l), .int _ (.ofNat c) => need (elS P t) 100 fun e => need (szO P e) 101 fun k => need (zeroO P e) 102 fun z => want (Nat.ble l c && (Nat.ble c 10000 && (Nat.ble (P.bytesOf e) 10000 && (Nat.beq (lenL z.cells) k && notup z)))) 103 <|
      bnd (newRowM e k (rdyL (repL c z.cells)) false) fun n => ret (.sl n 0 l c)
  | _, _ => fail [104]
/-- Parts of a literal, laid into the zero value's cells. -/
noncomputable def layL (n : Nat) (f : Nat → Option (Nat × Nat)) (ps : List (Nat × AV)) : Tr AV → Option (Tr AV) :=
  List.rec (motive := fun _ => Tr AV → Option (Tr AV)) (fun t => some t) (fun p _ ih t => (f p.1).bind fun q => bif Nat.beq (lenL p.2.cells) q.2 && (Nat.ble (Nat.add q.1 q.2) n && notup p.2) then ih (Tr.fill p.2.cells q.1 t) else none) ps
noncomputable def zipP (ps : List (Nat × Operand)) (args : List AV) : List (Nat × AV) :=
  List.rec (motive := fun _ => List AV → List (Nat × AV)) (fun _ => []) (fun p _ ih args => List.rec (motive := fun _ => List (Nat × AV)) [] (fun x m _ => (p.1, x) :: ih m) args) ps args
noncomputable def buildV (P : Program) (t : TypeId) (ps : List (Nat × AV)) : Option AV :=
  (zeroO P t).bind fun z => bif notup z then fNat (lenL z.cells) fun n =>
  match P.underlying t with
  | some (.struct fs) => bif fs.toList.all (fun f => (szO P f.type).isSome) then (layL n (fun i => (fs[i]?).bind fun f => (szO P f.type).map fun k => (f.offset, k)) ps (Tr.ofList z.cells)).bind fun t => (t.list n 0).map .agg else none
  | some (.array _ e) => (szO P e).bind fun k => (layL n (fun i => some (Nat.mul i k, k)) ps (Tr.ofList z.cells)).bind fun t => (t.list n 0).map .agg
  | _ => none
  else none
noncomputable def buildSliceM (P : Program) (t : TypeId) (len : Nat) (ps : List (Nat × AV)) : M AV :=
  need (elS P t) 110 fun e => need (szO P e) 111 fun k => need (zeroO P e) 112 fun z => want (Nat.ble (Nat.mul len k) 100000) 113 <|
  want (Nat.beq (lenL z.cells) k && notup z) 115 <| fNat (Nat.mul len k) fun n => need (layL n (fun i => some (Nat.mul i k, k)) ps (Tr.ofList (repL len z.cells))) 114 fun tr => bnd (new (.row e k n tr false)) fun c => ret (.sl c 0 len len)
noncomputable def unV (op : UnOp) (x : AV) : Option AV :=
  match op, x with
  | .not, .bool b => bv (!b)
  | .neg, .int k n => iv k (Int.sub 0 n)
  | .xor, .int k n => iv k (BitVec.ofInt k.bits (if k.signed then -1 else k.max) ^^^ BitVec.ofInt k.bits n).toNat
  | _, _ => none
noncomputable def pick3 (x y : AV) (b : Bool) : AV := Bool.rec (motive := fun _ => AV) y x b
/-- An operation's parts that may lack: low, high, max. -/
def takeO {α : Type} : Bool → List α → Option (Option α × List α)
  | false, l => some (none, l)
  | true, x :: l => some (some x, l)
  | true, [] => none
def notIfc (P : Program) (t : TypeId) : Bool :=
  match P.underlying t with
  | some (.interface _) => false
  | some _ => true
  | none => false
def isConst : Operand → Bool
  | .const _ => true
  | _ => false
/-- A part of a row that may have room behind its end: K elements are known. -/
noncomputable def osSl (P : Program) (t : TypeId) (n z e len K : Nat) (lo hi : Option AV) : Option AV :=
  (elS P t).bind fun el => (szO P el).bind fun k => bif Nat.beq k z then (bnd1 len hi K).bind fun h => (bnd1 0 lo h).bind fun l =>
    bif Nat.beq l 0 then some (.os n z e h) else bif Nat.beq h l then fNat (Nat.add e l) (fun e => some (.oe n z e)) else fNat (Nat.sub h l) fun len' => fNat (Nat.add e l) fun e => some (.os n z e len') else none
def overO (hi : Option AV) (len : Nat) : Bool := match hi with
  | some (.int _ (.ofNat h)) => Nat.blt len h
  | _ => false
noncomputable def capK (m : Mta) (z e : Nat) : Nat := match m with
  | .row _ z2 sz true => bif Nat.beq z2 z then Nat.sub (Nat.div sz z) e else 0
  | _ => 0
noncomputable def sliceM (P : Program) (t : TypeId) (x : AV) (lo hi mx : Option AV) : M AV :=
  match x, mx with
  | .os n z e len, none => bif overO hi len then bnd (rdM n) fun m => want (Nat.ble len (capK m z e)) 125 (need (osSl P t n z e len (capK m z e) lo hi) 124 fun x => ret x) else need (sliceV P t (.os n z e len) lo hi none) 124 fun x => ret x
  | x, mx => need (sliceV P t x lo hi mx) 124 fun x => ret x
noncomputable def arrAtV (P : Program) (t : TypeId) (x : AV) : Option AV :=
  (elA P t).bind fun p => match x with
  | .sl n o len _ => bif Nat.ble p.1 len then some (.ptr n o) else none
  | .os n z e len => bif Nat.ble p.1 len then fNat (Nat.mul e z) fun o => some (.ptr n o) else none
  | _ => none
noncomputable def exOp (P : Program) (call : FuncId → List AV → M AV) (o : Oper) (args : List AV) : M AV :=
  match o.op, args with
  | .move _, [x] => ret x
  | .assign _, [x] => ret x
  | .pick _ _ _, [.bool b, x, y] => ret (pick3 x y b)
  | .alloc t, _ => need (zeroO P t) 120 fun z => boxM t z
  | .box t _, [x] => boxM t x
  | .build t ps, args => need (buildV P t (zipP ps.toList args)) 121 fun x => ret x
  | .buildSlice t n ps, args => buildSliceM P t n (zipP ps.toList args)
  | .load t _, [a] => loadM P t a
  | .store t _ _, [a, x] => storeM P t a x
  | .nilCheck _, [.ptr n o] => ret (.ptr n o)
  | .binOp op t a b _, [x, y] => needL (binV P op t (isConst a) (isConst b) x y) (askE x y) fun x => ret x
  | .unOp op _ _, [x] => need (unV op x) 123 fun x => ret x
  | .convert s d _, [x] => convV P s d x
  | .sliceToArrayPointer t _, [x] => need (arrAtV P t x) 132 fun x => ret x
  | .makeInterface t _, [x] => want (notIfc P t) 133 (ret (.iface t x))
  | .makeFunc fn fs _, args => ret (.func fn (takeL fs.size args) (dropL fs.size args))
  | .makeMap _ _, [] => bnd (new (.mp [])) fun n => ret (.map n)
  | .makeMap t _, [.int _ _] => need (mapT P t) 134 fun _ => bnd (new (.mp [])) fun n => ret (.map n)
  | .makeSlice t _ _, [l, c] => makeSliceM P t l c
  | .slice t _ lo hi mx, x :: l => need ((takeO lo.isSome l).bind fun p => (takeO hi.isSome p.2).bind fun q => (takeO mx.isSome q.2).map fun r => (p.1, q.1, r.1)) 124 fun s => sliceM P t x s.1 s.2.1 s.2.2
  | .fieldAddr t _ f, [x] => need (fieldAddrV P t x f) 125 fun x => ret x
  | .field t _ f, [x] => need (fieldV P t x f) 126 fun x => ret x
  | .indexAddr t _ _, [x, i] => need (indexAddrV P t x i) 127 fun x => ret x
  | .index t _ _, [x, i] => need (indexV P t x i) 128 fun x => ret x
  | .lookup t _ _ ok, [x, k] => lookM P t x k ok
  | .mapUpdate t _ _ _, [x, k, v] => updM P t x k v
  | .insert t _ _ _, [x, k, v] => updM P t x k v
  | .extract _ i, [.tup l] => need (nthL l i) 129 fun x => ret x
  | .call c, args =>
    match c.callee, args with
    | .builtin b, args => builtM P b c.argTypes args
    | .value _, .func (.func f) first caps :: args => call f (appL first (appL args caps))
    | _, _ => fail [130]
  | _, _ => fail [131]
inductive Ex where
  | normal
  | exit (id : Nat)
  | ret
  | goto (l : Nat)
structure CR where
  x : Ex
  a : Tr AV
noncomputable def blank (n : Nat) : Tr AV := Nat.rec (motive := fun _ => Tr AV) .leaf (fun k t => t.set k (.tup [])) n
noncomputable def resL (P : Program) (a : Tr AV) (l : List ResultVar) : M (List AV) :=
  List.rec (motive := fun _ => M (List AV)) (ret []) (fun r _ ih => bnd (match r with
    | .tmp t => need (a.get t) 140 fun x => ret x
    | .cell p t => need (a.get p) 141 fun x => loadM P t x) fun x => bnd ih fun l => ret (x :: l)) l
/-- What an operation comes to: nothing is told; a value; a question. -/
inductive Tb where
  | no
  | val (x : AV)
  | ask (l : List Nat)
/-- Functions that are told by what they do, not by their code; and operations whose outcome is told. -/
structure Ora where
  fn : FuncId → Option (List AV → M AV)
  tab : Op → List AV → Tb
def noOra : Ora := ⟨fun _ => none, fun _ _ => .no⟩
def isUn : AV → Bool
  | .sx _ _ => true
  | .fp _ => true
  | .ol _ _ _ => true
  | _ => false
noncomputable def anyUn (l : List AV) : Bool := List.rec (motive := fun _ => Bool) false (fun x _ ih => Bool.rec (motive := fun _ => Bool) ih true (isUn x)) l
noncomputable def exOpT (P : Program) (tab : Op → List AV → Tb) (call : FuncId → List AV → M AV) (o : Oper) (args : List AV) : M AV :=
  Bool.rec (motive := fun _ => M AV) (exOp P call o args) (Tb.rec (motive := fun _ => M AV) (exOp P call o args) (fun x => ret x) (fun l => fail (88 :: l)) (tab o.op args)) (anyUn args)
noncomputable def callM (P : Program) (ora : Ora) (ih : Nat → Code → Tr AV → M CR) (f : FuncId) (args : List AV) : M AV :=
  Option.rec (motive := fun _ => M AV) (
  tag f <| need (P.funcs[f]?) 150 fun fn => need fn.body 151 fun c => want (Nat.ble (lenL args) fn.ntmps) 152 <|
  bnd (ih fn.ntmps c (Tr.fill args 0 (blank fn.ntmps))) fun r =>
  match r.x with
  | .exit _ => fail [153]
  | .goto _ => fail [153]
  | _ => bnd (resL P r.a fn.results.toList) fun l => match l with
    | [x] => ret x
    | l => ret (.tup l)) (fun g => g args) (ora.fn f)
noncomputable def dstOK (N : Nat) (ops : Array Oper) : Bool := ops.toList.all fun o => Option.rec (motive := fun _ => Bool) true (fun d => Nat.blt d N) o.dst
/-- A scope's code, run; at a jump, on from the label. -/
noncomputable def jmps (ex : Code → Tr AV → M CR) (x : Code) (m : Nat) : Code → Tr AV → M CR :=
  Nat.rec (motive := fun _ => Code → Tr AV → M CR) (fun _ _ => fail [166]) (fun _ ih c a => bnd (ex c a) fun r => match r.x with
    | .goto l => need (findLabel x l) 167 fun rest => ih rest r.a
    | _ => ret r) m
/-- What is not decided of a value. -/
def askV (v : AV) : List Nat := match v with
  | .sx .bool e => 88 :: e.enc []
  | _ => [164]
/-- Code, run. -/
noncomputable def exec (P : Program) (G : Nat → Option AV) (ora : Ora) (n : Nat) : Nat → Code → Tr AV → M CR :=
  Nat.rec (motive := fun _ => Nat → Code → Tr AV → M CR) (fun _ _ _ => fail [160]) (fun _ ih N c a =>
    match c with
    | .skip => ret ⟨.normal, a⟩
    | .label _ => ret ⟨.normal, a⟩
    | .exit id => ret ⟨.exit id, a⟩
    | .ret => ret ⟨.ret, a⟩
    | .region _ ops draw => Bool.rec (motive := fun _ => M CR)
        (want (dstOK N ops) 161 (bnd (runL ⟨G, exOpT P ora.tab (callM P ora ih)⟩ ops ops.toList a) fun a => ret ⟨.normal, a⟩))
        (want (statOK N ops) 162 (bnd (drw ⟨G, exOpT P ora.tab (callM P ora ih)⟩ ops (masks ops.toList 0 .leaf) ops.toList 0 [] a) fun a => ret ⟨.normal, a⟩)) draw
    | .seq x y => bnd (ih N x a) fun r => match r.x with
      | .normal => ih N y r.a
      | _ => ret r
    | .cond o x y => need (evl G a o) 163 fun v => match v with
      | .bool b => Bool.rec (motive := fun _ => M CR) (ih N y a) (ih N x a) b
      | v => fail (askV v)
    | .block id x => bnd (ih N x a) fun r => match r.x with
      | .exit i => bif Nat.beq i id then ret ⟨.normal, r.a⟩ else ret r
      | _ => ret r
    | .loop x => bnd (ih N x a) fun r => match r.x with
      | .normal => ih N (.loop x) r.a
      | _ => ret r
    | .scope x => jmps (ih N) x 100000 x a
    | .goto l => ret ⟨.goto l, a⟩
    | _ => fail [165]) n
end Go.Proofs.YtdflkikhmngfiaaGreatDoor

