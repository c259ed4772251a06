/-
  No cell of these rows narrows 'for every input' (looked for: loops, veiled, ifaces, maps, wideKeys, modest, calm, conditions, laid).
  DERIVED. THE GIVEN ROWS OF THIS SEAT. 11 by the template 'for every input the law returns true; each argument reads behind the call as it read before'; 0 by the template 'total and deterministic' (their statements: YtmnaljnkgaebkaaTotals.lean).
  GIVEN WITH THE SEED: the statements are not yours to turn. If you find one false, say at which input.
  Laid BY PROGRAM, IN A SANDBOX (cutbox-rows.mjs): the forced cells as the released guide's own fill.sh prints them over the translation 41e6cd5c97541bdb… (all of the seat's roots in one cut). By AI agents, Wed Nov 11 2026. No macro, syntax, notation, axiom, sorry.
-/
import Derived.Test.YtmnaljnkgaebkaaChecked
import GoSem.Claim
import GoSem.ClaimJoined
import GoSem.ClaimMapViews
import Derived.JoinedTies
import Derived.KernelRfl
namespace Go.Proofs.Ytmnaljnkgaebkaa
/- THE CELL 'sum', in the pinned program and in every row, IS THE sha256 OF THE DUMP (.gsa) THAT YtmnaljnkgaebkaaProg.lean LOADS. Nothing in Lean hashes anything: it is a label: what it is worth is what the hold of that sum in a sandbox is worth. -/
noncomputable def Try.pinned : Pinned := { name := "ytmnaljnkgaebkaa", sum := "41e6cd5c97541bdbb93b10910449dc5b947312af3e2c5040637537bcd316cb4b", checked := Try.checked }
namespace Rows
def none {H : Type} : Left H := { results := [], args := [] }

/-- 'footmanlaw02.HuffCodes': WHATEVER THE INPUT: true; the input reads as it did. -/
def huffCodesSpec : ChangeSpec := { name := "huffCodes", fn := fun _ => fun
  | [d1, d2] => { results := [.lit (.bool true)], args := [d1, d2] }
  | _ => none }
def huffCodesRow : OpenClaim := { program := "ytmnaljnkgaebkaa", sum := "41e6cd5c97541bdbb93b10910449dc5b947312af3e2c5040637537bcd316cb4b", func := "footman/footmanlaw02.HuffCodes", spec := "huffCodes", inPlace := ["sync/atomic.LoadUint32", "(*internal/sync.Mutex).Lock", "internal/race.Disable", "sync/atomic.CompareAndSwapInt32", "internal/race.Enable", "internal/race.Acquire", "(*internal/sync.Mutex).lockSlow", "internal/sync.runtime_canSpin", "internal/sync.runtime_doSpin", "internal/sync.throw", "internal/sync.runtime_nanotime", "internal/sync.runtime_SemacquireMutex", "sync/atomic.AddInt32", "(*internal/sync.Mutex).Unlock", "internal/race.ReleaseMerge", "(*internal/sync.Mutex).unlockSlow", "internal/sync.fatal", "internal/sync.runtime_Semrelease", "sync/atomic.StoreUint32"], unfollowed := true, recurses := true, apart := false }
def HuffCodesSaid : Prop := huffCodesRow.holds Try.pinned (OpenSpec.ofChange huffCodesSpec)

/-- ITS FALSE NEIGHBOUR: 'it returns false'. Refute it at one input. -/
def huffCodesWrong : ChangeSpec := { name := "huffCodes", fn := fun _ => fun
  | [d1, d2] => { results := [.lit (.bool false)], args := [d1, d2] }
  | _ => none }
def HuffCodesWrongFalsely : Prop := huffCodesRow.holds Try.pinned (OpenSpec.ofChange huffCodesWrong)

/-- 'footmanlaw02.HuffDecodes': WHATEVER THE INPUT: true; the input reads as it did. -/
def huffDecodesSpec : ChangeSpec := { name := "huffDecodes", fn := fun _ => fun
  | [d] => { results := [.lit (.bool true)], args := [d] }
  | _ => none }
def huffDecodesRow : OpenClaim := { program := "ytmnaljnkgaebkaa", sum := "41e6cd5c97541bdbb93b10910449dc5b947312af3e2c5040637537bcd316cb4b", func := "footman/footmanlaw02.HuffDecodes", spec := "huffDecodes", inPlace := ["sync/atomic.LoadUint32", "(*internal/sync.Mutex).Lock", "internal/race.Disable", "sync/atomic.CompareAndSwapInt32", "internal/race.Enable", "internal/race.Acquire", "(*internal/sync.Mutex).lockSlow", "internal/sync.runtime_canSpin", "internal/sync.runtime_doSpin", "internal/sync.throw", "internal/sync.runtime_nanotime", "internal/sync.runtime_SemacquireMutex", "sync/atomic.AddInt32", "(*internal/sync.Mutex).Unlock", "internal/race.ReleaseMerge", "(*internal/sync.Mutex).unlockSlow", "internal/sync.fatal", "internal/sync.runtime_Semrelease", "sync/atomic.StoreUint32"], unfollowed := true, recurses := true, apart := false }
def HuffDecodesSaid : Prop := huffDecodesRow.holds Try.pinned (OpenSpec.ofChange huffDecodesSpec)

/-- ITS FALSE NEIGHBOUR: 'it returns false'. Refute it at one input. -/
def huffDecodesWrong : ChangeSpec := { name := "huffDecodes", fn := fun _ => fun
  | [d] => { results := [.lit (.bool false)], args := [d] }
  | _ => none }
def HuffDecodesWrongFalsely : Prop := huffDecodesRow.holds Try.pinned (OpenSpec.ofChange huffDecodesWrong)

/-- 'footmanlaw02.HuffBack': WHATEVER THE INPUT: true; the input reads as it did. -/
def huffBackSpec : ChangeSpec := { name := "huffBack", fn := fun _ => fun
  | [d1, d2] => { results := [.lit (.bool true)], args := [d1, d2] }
  | _ => none }
def huffBackRow : OpenClaim := { program := "ytmnaljnkgaebkaa", sum := "41e6cd5c97541bdbb93b10910449dc5b947312af3e2c5040637537bcd316cb4b", func := "footman/footmanlaw02.HuffBack", spec := "huffBack", inPlace := ["sync/atomic.LoadUint32", "(*internal/sync.Mutex).Lock", "internal/race.Disable", "sync/atomic.CompareAndSwapInt32", "internal/race.Enable", "internal/race.Acquire", "(*internal/sync.Mutex).lockSlow", "internal/sync.runtime_canSpin", "internal/sync.runtime_doSpin", "internal/sync.throw", "internal/sync.runtime_nanotime", "internal/sync.runtime_SemacquireMutex", "sync/atomic.AddInt32", "(*internal/sync.Mutex).Unlock", "internal/race.ReleaseMerge", "(*internal/sync.Mutex).unlockSlow", "internal/sync.fatal", "internal/sync.runtime_Semrelease", "sync/atomic.StoreUint32"], unfollowed := true, recurses := true, apart := false }
def HuffBackSaid : Prop := huffBackRow.holds Try.pinned (OpenSpec.ofChange huffBackSpec)

/-- ITS FALSE NEIGHBOUR: 'it returns false'. Refute it at one input. -/
def huffBackWrong : ChangeSpec := { name := "huffBack", fn := fun _ => fun
  | [d1, d2] => { results := [.lit (.bool false)], args := [d1, d2] }
  | _ => none }
def HuffBackWrongFalsely : Prop := huffBackRow.holds Try.pinned (OpenSpec.ofChange huffBackWrong)

/-- 'footmanlaw02.HuffPrefix': WHATEVER THE INPUT: true; the input reads as it did. -/
def huffPrefixSpec : ChangeSpec := { name := "huffPrefix", fn := fun _ => fun
  | [d1, d2] => { results := [.lit (.bool true)], args := [d1, d2] }
  | _ => none }
def huffPrefixRow : OpenClaim := { program := "ytmnaljnkgaebkaa", sum := "41e6cd5c97541bdbb93b10910449dc5b947312af3e2c5040637537bcd316cb4b", func := "footman/footmanlaw02.HuffPrefix", spec := "huffPrefix", inPlace := ["sync/atomic.LoadUint32", "(*internal/sync.Mutex).Lock", "internal/race.Disable", "sync/atomic.CompareAndSwapInt32", "internal/race.Enable", "internal/race.Acquire", "(*internal/sync.Mutex).lockSlow", "internal/sync.runtime_canSpin", "internal/sync.runtime_doSpin", "internal/sync.throw", "internal/sync.runtime_nanotime", "internal/sync.runtime_SemacquireMutex", "sync/atomic.AddInt32", "(*internal/sync.Mutex).Unlock", "internal/race.ReleaseMerge", "(*internal/sync.Mutex).unlockSlow", "internal/sync.fatal", "internal/sync.runtime_Semrelease", "sync/atomic.StoreUint32"], unfollowed := true, recurses := true, apart := false }
def HuffPrefixSaid : Prop := huffPrefixRow.holds Try.pinned (OpenSpec.ofChange huffPrefixSpec)

/-- ITS FALSE NEIGHBOUR: 'it returns false'. Refute it at one input. -/
def huffPrefixWrong : ChangeSpec := { name := "huffPrefix", fn := fun _ => fun
  | [d1, d2] => { results := [.lit (.bool false)], args := [d1, d2] }
  | _ => none }
def HuffPrefixWrongFalsely : Prop := huffPrefixRow.holds Try.pinned (OpenSpec.ofChange huffPrefixWrong)

/-- 'footmanlaw04.DyntabFinds': WHATEVER THE INPUT: true; the input reads as it did. -/
def dyntabFindsSpec : ChangeSpec := { name := "dyntabFinds", fn := fun _ => fun
  | [d1, d2, d3] => { results := [.lit (.bool true)], args := [d1, d2, d3] }
  | _ => none }
def dyntabFindsRow : OpenClaim := { program := "ytmnaljnkgaebkaa", sum := "41e6cd5c97541bdbb93b10910449dc5b947312af3e2c5040637537bcd316cb4b", func := "footman/footmanlaw04.DyntabFinds", spec := "dyntabFinds", inPlace := ["slices.overlaps[footman/api.Field]"], unfollowed := true, recurses := true, apart := false }
def DyntabFindsSaid : Prop := dyntabFindsRow.holds Try.pinned (OpenSpec.ofChange dyntabFindsSpec)

/-- ITS FALSE NEIGHBOUR: 'it returns false'. Refute it at one input. -/
def dyntabFindsWrong : ChangeSpec := { name := "dyntabFinds", fn := fun _ => fun
  | [d1, d2, d3] => { results := [.lit (.bool false)], args := [d1, d2, d3] }
  | _ => none }
def DyntabFindsWrongFalsely : Prop := dyntabFindsRow.holds Try.pinned (OpenSpec.ofChange dyntabFindsWrong)

/-- 'footmanlaw04.DyntabOrder': WHATEVER THE INPUT: true; the input reads as it did. -/
def dyntabOrderSpec : ChangeSpec := { name := "dyntabOrder", fn := fun _ => fun
  | [d1, d2] => { results := [.lit (.bool true)], args := [d1, d2] }
  | _ => none }
def dyntabOrderRow : OpenClaim := { program := "ytmnaljnkgaebkaa", sum := "41e6cd5c97541bdbb93b10910449dc5b947312af3e2c5040637537bcd316cb4b", func := "footman/footmanlaw04.DyntabOrder", spec := "dyntabOrder", inPlace := ["slices.overlaps[footman/api.Field]"], unfollowed := true, recurses := true, apart := false }
def DyntabOrderSaid : Prop := dyntabOrderRow.holds Try.pinned (OpenSpec.ofChange dyntabOrderSpec)

/-- ITS FALSE NEIGHBOUR: 'it returns false'. Refute it at one input. -/
def dyntabOrderWrong : ChangeSpec := { name := "dyntabOrder", fn := fun _ => fun
  | [d1, d2] => { results := [.lit (.bool false)], args := [d1, d2] }
  | _ => none }
def DyntabOrderWrongFalsely : Prop := dyntabOrderRow.holds Try.pinned (OpenSpec.ofChange dyntabOrderWrong)

/-- 'footmanlaw04.DyntabPlaces': WHATEVER THE INPUT: true; the input reads as it did. -/
def dyntabPlacesSpec : ChangeSpec := { name := "dyntabPlaces", fn := fun _ => fun
  | [d1, d2] => { results := [.lit (.bool true)], args := [d1, d2] }
  | _ => none }
def dyntabPlacesRow : OpenClaim := { program := "ytmnaljnkgaebkaa", sum := "41e6cd5c97541bdbb93b10910449dc5b947312af3e2c5040637537bcd316cb4b", func := "footman/footmanlaw04.DyntabPlaces", spec := "dyntabPlaces", inPlace := ["slices.overlaps[footman/api.Field]"], unfollowed := true, recurses := true, apart := false }
def DyntabPlacesSaid : Prop := dyntabPlacesRow.holds Try.pinned (OpenSpec.ofChange dyntabPlacesSpec)

/-- ITS FALSE NEIGHBOUR: 'it returns false'. Refute it at one input. -/
def dyntabPlacesWrong : ChangeSpec := { name := "dyntabPlaces", fn := fun _ => fun
  | [d1, d2] => { results := [.lit (.bool false)], args := [d1, d2] }
  | _ => none }
def DyntabPlacesWrongFalsely : Prop := dyntabPlacesRow.holds Try.pinned (OpenSpec.ofChange dyntabPlacesWrong)

/-- 'footmanlaw05.ReprPuts': WHATEVER THE INPUT: true; the input reads as it did. -/
def reprPutsSpec : ChangeSpec := { name := "reprPuts", fn := fun _ => fun
  | [d1, d2] => { results := [.lit (.bool true)], args := [d1, d2] }
  | _ => none }
def reprPutsRow : OpenClaim := { program := "ytmnaljnkgaebkaa", sum := "41e6cd5c97541bdbb93b10910449dc5b947312af3e2c5040637537bcd316cb4b", func := "footman/footmanlaw05.ReprPuts", spec := "reprPuts", inPlace := ["sync/atomic.LoadUint32", "(*internal/sync.Mutex).Lock", "internal/race.Disable", "sync/atomic.CompareAndSwapInt32", "internal/race.Enable", "internal/race.Acquire", "(*internal/sync.Mutex).lockSlow", "internal/sync.runtime_canSpin", "internal/sync.runtime_doSpin", "internal/sync.throw", "internal/sync.runtime_nanotime", "internal/sync.runtime_SemacquireMutex", "sync/atomic.AddInt32", "(*internal/sync.Mutex).Unlock", "internal/race.ReleaseMerge", "(*internal/sync.Mutex).unlockSlow", "internal/sync.fatal", "internal/sync.runtime_Semrelease", "sync/atomic.StoreUint32"], unfollowed := true, recurses := true, apart := false }
def ReprPutsSaid : Prop := reprPutsRow.holds Try.pinned (OpenSpec.ofChange reprPutsSpec)

/-- ITS FALSE NEIGHBOUR: 'it returns false'. Refute it at one input. -/
def reprPutsWrong : ChangeSpec := { name := "reprPuts", fn := fun _ => fun
  | [d1, d2] => { results := [.lit (.bool false)], args := [d1, d2] }
  | _ => none }
def ReprPutsWrongFalsely : Prop := reprPutsRow.holds Try.pinned (OpenSpec.ofChange reprPutsWrong)

/-- 'footmanlaw05.ReprGets': WHATEVER THE INPUT: true; the input reads as it did. -/
def reprGetsSpec : ChangeSpec := { name := "reprGets", fn := fun _ => fun
  | [d] => { results := [.lit (.bool true)], args := [d] }
  | _ => none }
def reprGetsRow : OpenClaim := { program := "ytmnaljnkgaebkaa", sum := "41e6cd5c97541bdbb93b10910449dc5b947312af3e2c5040637537bcd316cb4b", func := "footman/footmanlaw05.ReprGets", spec := "reprGets", inPlace := ["sync/atomic.LoadUint32", "(*internal/sync.Mutex).Lock", "internal/race.Disable", "sync/atomic.CompareAndSwapInt32", "internal/race.Enable", "internal/race.Acquire", "(*internal/sync.Mutex).lockSlow", "internal/sync.runtime_canSpin", "internal/sync.runtime_doSpin", "internal/sync.throw", "internal/sync.runtime_nanotime", "internal/sync.runtime_SemacquireMutex", "sync/atomic.AddInt32", "(*internal/sync.Mutex).Unlock", "internal/race.ReleaseMerge", "(*internal/sync.Mutex).unlockSlow", "internal/sync.fatal", "internal/sync.runtime_Semrelease", "sync/atomic.StoreUint32"], unfollowed := true, recurses := true, apart := false }
def ReprGetsSaid : Prop := reprGetsRow.holds Try.pinned (OpenSpec.ofChange reprGetsSpec)

/-- ITS FALSE NEIGHBOUR: 'it returns false'. Refute it at one input. -/
def reprGetsWrong : ChangeSpec := { name := "reprGets", fn := fun _ => fun
  | [d] => { results := [.lit (.bool false)], args := [d] }
  | _ => none }
def ReprGetsWrongFalsely : Prop := reprGetsRow.holds Try.pinned (OpenSpec.ofChange reprGetsWrong)

/-- 'footmanlaw05.ReprLongs': WHATEVER THE INPUT: true; the input reads as it did. -/
def reprLongsSpec : ChangeSpec := { name := "reprLongs", fn := fun _ => fun
  | [d1, d2] => { results := [.lit (.bool true)], args := [d1, d2] }
  | _ => none }
def reprLongsRow : OpenClaim := { program := "ytmnaljnkgaebkaa", sum := "41e6cd5c97541bdbb93b10910449dc5b947312af3e2c5040637537bcd316cb4b", func := "footman/footmanlaw05.ReprLongs", spec := "reprLongs", inPlace := ["sync/atomic.LoadUint32", "(*internal/sync.Mutex).Lock", "internal/race.Disable", "sync/atomic.CompareAndSwapInt32", "internal/race.Enable", "internal/race.Acquire", "(*internal/sync.Mutex).lockSlow", "internal/sync.runtime_canSpin", "internal/sync.runtime_doSpin", "internal/sync.throw", "internal/sync.runtime_nanotime", "internal/sync.runtime_SemacquireMutex", "sync/atomic.AddInt32", "(*internal/sync.Mutex).Unlock", "internal/race.ReleaseMerge", "(*internal/sync.Mutex).unlockSlow", "internal/sync.fatal", "internal/sync.runtime_Semrelease", "sync/atomic.StoreUint32"], unfollowed := true, recurses := true, apart := false }
def ReprLongsSaid : Prop := reprLongsRow.holds Try.pinned (OpenSpec.ofChange reprLongsSpec)

/-- ITS FALSE NEIGHBOUR: 'it returns false'. Refute it at one input. -/
def reprLongsWrong : ChangeSpec := { name := "reprLongs", fn := fun _ => fun
  | [d1, d2] => { results := [.lit (.bool false)], args := [d1, d2] }
  | _ => none }
def ReprLongsWrongFalsely : Prop := reprLongsRow.holds Try.pinned (OpenSpec.ofChange reprLongsWrong)

/-- 'footmanlaw05.ReprBack': WHATEVER THE INPUT: true; the input reads as it did. -/
def reprBackSpec : ChangeSpec := { name := "reprBack", fn := fun _ => fun
  | [d] => { results := [.lit (.bool true)], args := [d] }
  | _ => none }
def reprBackRow : OpenClaim := { program := "ytmnaljnkgaebkaa", sum := "41e6cd5c97541bdbb93b10910449dc5b947312af3e2c5040637537bcd316cb4b", func := "footman/footmanlaw05.ReprBack", spec := "reprBack", inPlace := ["sync/atomic.LoadUint32", "(*internal/sync.Mutex).Lock", "internal/race.Disable", "sync/atomic.CompareAndSwapInt32", "internal/race.Enable", "internal/race.Acquire", "(*internal/sync.Mutex).lockSlow", "internal/sync.runtime_canSpin", "internal/sync.runtime_doSpin", "internal/sync.throw", "internal/sync.runtime_nanotime", "internal/sync.runtime_SemacquireMutex", "sync/atomic.AddInt32", "(*internal/sync.Mutex).Unlock", "internal/race.ReleaseMerge", "(*internal/sync.Mutex).unlockSlow", "internal/sync.fatal", "internal/sync.runtime_Semrelease", "sync/atomic.StoreUint32"], unfollowed := true, recurses := true, apart := false }
def ReprBackSaid : Prop := reprBackRow.holds Try.pinned (OpenSpec.ofChange reprBackSpec)

/-- ITS FALSE NEIGHBOUR: 'it returns false'. Refute it at one input. -/
def reprBackWrong : ChangeSpec := { name := "reprBack", fn := fun _ => fun
  | [d] => { results := [.lit (.bool false)], args := [d] }
  | _ => none }
def ReprBackWrongFalsely : Prop := reprBackRow.holds Try.pinned (OpenSpec.ofChange reprBackWrong)

/- THE SECOND FORM. 'bulk': how many values and letters a reading holds, each counted each time it is reached (what is shared counts as often as it is met; a slice's spare places count too). A statement '..UptoSaid' is the law's where the arguments, and the package variables that the reading takes, are together of bulk at most 1048576: NARROWER than '..Said'. Prove '..Said' where nothing that the law and all that it calls make is longer than what came in: it says more and counts as full. Else prove '..UptoSaid'. A law counts once. -/
mutual
def uptoBulk {H : Type} : DataW H → Nat
  | .lit (.string bytes) => bytes.length + 1
  | .lit _ => 1
  | .nil => 1
  | .ptr d => uptoBulk d + 1
  | .slice elems spare => uptoBulkAll elems + uptoBulkAll spare + 1
  | .agg parts => uptoBulkAll parts + 1
  | .iface _ d => uptoBulk d + 1
  | .map entries => uptoBulkEntries entries + 1
  | .held _ => 1
def uptoBulkAll {H : Type} : List (DataW H) → Nat
  | [] => 0
  | d :: r => uptoBulk d + uptoBulkAll r
def uptoBulkEntries {H : Type} : List (Lit × DataW H) → Nat
  | [] => 0
  | x :: r => uptoBulkEntry x + uptoBulkEntries r
def uptoBulkEntry {H : Type} : Lit × DataW H → Nat
  | (.string bytes, d) => bytes.length + uptoBulk d + 1
  | (_, d) => uptoBulk d + 1
 end
def uptoSmall : (H : Type) → List (DataW H) → Bool := fun _ ds => decide (uptoBulkAll ds ≤ 1048576)
def OpenSpec.upto (s : _root_.Go.ChangeSpec) : _root_.Go.OpenSpec := { _root_.Go.OpenSpec.ofChange s with cond := some uptoSmall }

/-- 'footmanlaw02.HuffCodes', WHERE WHAT IT READS IS OF BULK AT MOST 1048576: true; the input reads as it did. -/
def huffCodesUptoRow : OpenClaim := { program := "ytmnaljnkgaebkaa", sum := "41e6cd5c97541bdbb93b10910449dc5b947312af3e2c5040637537bcd316cb4b", func := "footman/footmanlaw02.HuffCodes", spec := "huffCodes", inPlace := ["sync/atomic.LoadUint32", "(*internal/sync.Mutex).Lock", "internal/race.Disable", "sync/atomic.CompareAndSwapInt32", "internal/race.Enable", "internal/race.Acquire", "(*internal/sync.Mutex).lockSlow", "internal/sync.runtime_canSpin", "internal/sync.runtime_doSpin", "internal/sync.throw", "internal/sync.runtime_nanotime", "internal/sync.runtime_SemacquireMutex", "sync/atomic.AddInt32", "(*internal/sync.Mutex).Unlock", "internal/race.ReleaseMerge", "(*internal/sync.Mutex).unlockSlow", "internal/sync.fatal", "internal/sync.runtime_Semrelease", "sync/atomic.StoreUint32"], unfollowed := true, recurses := true, apart := false, narrowed := true }
def HuffCodesUptoSaid : Prop := huffCodesUptoRow.holds Try.pinned (OpenSpec.upto huffCodesSpec)

/-- 'footmanlaw02.HuffDecodes', WHERE WHAT IT READS IS OF BULK AT MOST 1048576: true; the input reads as it did. -/
def huffDecodesUptoRow : OpenClaim := { program := "ytmnaljnkgaebkaa", sum := "41e6cd5c97541bdbb93b10910449dc5b947312af3e2c5040637537bcd316cb4b", func := "footman/footmanlaw02.HuffDecodes", spec := "huffDecodes", inPlace := ["sync/atomic.LoadUint32", "(*internal/sync.Mutex).Lock", "internal/race.Disable", "sync/atomic.CompareAndSwapInt32", "internal/race.Enable", "internal/race.Acquire", "(*internal/sync.Mutex).lockSlow", "internal/sync.runtime_canSpin", "internal/sync.runtime_doSpin", "internal/sync.throw", "internal/sync.runtime_nanotime", "internal/sync.runtime_SemacquireMutex", "sync/atomic.AddInt32", "(*internal/sync.Mutex).Unlock", "internal/race.ReleaseMerge", "(*internal/sync.Mutex).unlockSlow", "internal/sync.fatal", "internal/sync.runtime_Semrelease", "sync/atomic.StoreUint32"], unfollowed := true, recurses := true, apart := false, narrowed := true }
def HuffDecodesUptoSaid : Prop := huffDecodesUptoRow.holds Try.pinned (OpenSpec.upto huffDecodesSpec)

/-- 'footmanlaw02.HuffBack', WHERE WHAT IT READS IS OF BULK AT MOST 1048576: true; the input reads as it did. -/
def huffBackUptoRow : OpenClaim := { program := "ytmnaljnkgaebkaa", sum := "41e6cd5c97541bdbb93b10910449dc5b947312af3e2c5040637537bcd316cb4b", func := "footman/footmanlaw02.HuffBack", spec := "huffBack", inPlace := ["sync/atomic.LoadUint32", "(*internal/sync.Mutex).Lock", "internal/race.Disable", "sync/atomic.CompareAndSwapInt32", "internal/race.Enable", "internal/race.Acquire", "(*internal/sync.Mutex).lockSlow", "internal/sync.runtime_canSpin", "internal/sync.runtime_doSpin", "internal/sync.throw", "internal/sync.runtime_nanotime", "internal/sync.runtime_SemacquireMutex", "sync/atomic.AddInt32", "(*internal/sync.Mutex).Unlock", "internal/race.ReleaseMerge", "(*internal/sync.Mutex).unlockSlow", "internal/sync.fatal", "internal/sync.runtime_Semrelease", "sync/atomic.StoreUint32"], unfollowed := true, recurses := true, apart := false, narrowed := true }
def HuffBackUptoSaid : Prop := huffBackUptoRow.holds Try.pinned (OpenSpec.upto huffBackSpec)

/-- 'footmanlaw02.HuffPrefix', WHERE WHAT IT READS IS OF BULK AT MOST 1048576: true; the input reads as it did. -/
def huffPrefixUptoRow : OpenClaim := { program := "ytmnaljnkgaebkaa", sum := "41e6cd5c97541bdbb93b10910449dc5b947312af3e2c5040637537bcd316cb4b", func := "footman/footmanlaw02.HuffPrefix", spec := "huffPrefix", inPlace := ["sync/atomic.LoadUint32", "(*internal/sync.Mutex).Lock", "internal/race.Disable", "sync/atomic.CompareAndSwapInt32", "internal/race.Enable", "internal/race.Acquire", "(*internal/sync.Mutex).lockSlow", "internal/sync.runtime_canSpin", "internal/sync.runtime_doSpin", "internal/sync.throw", "internal/sync.runtime_nanotime", "internal/sync.runtime_SemacquireMutex", "sync/atomic.AddInt32", "(*internal/sync.Mutex).Unlock", "internal/race.ReleaseMerge", "(*internal/sync.Mutex).unlockSlow", "internal/sync.fatal", "internal/sync.runtime_Semrelease", "sync/atomic.StoreUint32"], unfollowed := true, recurses := true, apart := false, narrowed := true }
def HuffPrefixUptoSaid : Prop := huffPrefixUptoRow.holds Try.pinned (OpenSpec.upto huffPrefixSpec)

/-- 'footmanlaw04.DyntabFinds', WHERE WHAT IT READS IS OF BULK AT MOST 1048576: true; the input reads as it did. -/
def dyntabFindsUptoRow : OpenClaim := { program := "ytmnaljnkgaebkaa", sum := "41e6cd5c97541bdbb93b10910449dc5b947312af3e2c5040637537bcd316cb4b", func := "footman/footmanlaw04.DyntabFinds", spec := "dyntabFinds", inPlace := ["slices.overlaps[footman/api.Field]"], unfollowed := true, recurses := true, apart := false, narrowed := true }
def DyntabFindsUptoSaid : Prop := dyntabFindsUptoRow.holds Try.pinned (OpenSpec.upto dyntabFindsSpec)

/-- 'footmanlaw04.DyntabOrder', WHERE WHAT IT READS IS OF BULK AT MOST 1048576: true; the input reads as it did. -/
def dyntabOrderUptoRow : OpenClaim := { program := "ytmnaljnkgaebkaa", sum := "41e6cd5c97541bdbb93b10910449dc5b947312af3e2c5040637537bcd316cb4b", func := "footman/footmanlaw04.DyntabOrder", spec := "dyntabOrder", inPlace := ["slices.overlaps[footman/api.Field]"], unfollowed := true, recurses := true, apart := false, narrowed := true }
def DyntabOrderUptoSaid : Prop := dyntabOrderUptoRow.holds Try.pinned (OpenSpec.upto dyntabOrderSpec)

/-- 'footmanlaw04.DyntabPlaces', WHERE WHAT IT READS IS OF BULK AT MOST 1048576: true; the input reads as it did. -/
def dyntabPlacesUptoRow : OpenClaim := { program := "ytmnaljnkgaebkaa", sum := "41e6cd5c97541bdbb93b10910449dc5b947312af3e2c5040637537bcd316cb4b", func := "footman/footmanlaw04.DyntabPlaces", spec := "dyntabPlaces", inPlace := ["slices.overlaps[footman/api.Field]"], unfollowed := true, recurses := true, apart := false, narrowed := true }
def DyntabPlacesUptoSaid : Prop := dyntabPlacesUptoRow.holds Try.pinned (OpenSpec.upto dyntabPlacesSpec)

/-- 'footmanlaw05.ReprPuts', WHERE WHAT IT READS IS OF BULK AT MOST 1048576: true; the input reads as it did. -/
def reprPutsUptoRow : OpenClaim := { program := "ytmnaljnkgaebkaa", sum := "41e6cd5c97541bdbb93b10910449dc5b947312af3e2c5040637537bcd316cb4b", func := "footman/footmanlaw05.ReprPuts", spec := "reprPuts", inPlace := ["sync/atomic.LoadUint32", "(*internal/sync.Mutex).Lock", "internal/race.Disable", "sync/atomic.CompareAndSwapInt32", "internal/race.Enable", "internal/race.Acquire", "(*internal/sync.Mutex).lockSlow", "internal/sync.runtime_canSpin", "internal/sync.runtime_doSpin", "internal/sync.throw", "internal/sync.runtime_nanotime", "internal/sync.runtime_SemacquireMutex", "sync/atomic.AddInt32", "(*internal/sync.Mutex).Unlock", "internal/race.ReleaseMerge", "(*internal/sync.Mutex).unlockSlow", "internal/sync.fatal", "internal/sync.runtime_Semrelease", "sync/atomic.StoreUint32"], unfollowed := true, recurses := true, apart := false, narrowed := true }
def ReprPutsUptoSaid : Prop := reprPutsUptoRow.holds Try.pinned (OpenSpec.upto reprPutsSpec)

/-- 'footmanlaw05.ReprGets', WHERE WHAT IT READS IS OF BULK AT MOST 1048576: true; the input reads as it did. -/
def reprGetsUptoRow : OpenClaim := { program := "ytmnaljnkgaebkaa", sum := "41e6cd5c97541bdbb93b10910449dc5b947312af3e2c5040637537bcd316cb4b", func := "footman/footmanlaw05.ReprGets", spec := "reprGets", inPlace := ["sync/atomic.LoadUint32", "(*internal/sync.Mutex).Lock", "internal/race.Disable", "sync/atomic.CompareAndSwapInt32", "internal/race.Enable", "internal/race.Acquire", "(*internal/sync.Mutex).lockSlow", "internal/sync.runtime_canSpin", "internal/sync.runtime_doSpin", "internal/sync.throw", "internal/sync.runtime_nanotime", "internal/sync.runtime_SemacquireMutex", "sync/atomic.AddInt32", "(*internal/sync.Mutex).Unlock", "internal/race.ReleaseMerge", "(*internal/sync.Mutex).unlockSlow", "internal/sync.fatal", "internal/sync.runtime_Semrelease", "sync/atomic.StoreUint32"], unfollowed := true, recurses := true, apart := false, narrowed := true }
def ReprGetsUptoSaid : Prop := reprGetsUptoRow.holds Try.pinned (OpenSpec.upto reprGetsSpec)

/-- 'footmanlaw05.ReprLongs', WHERE WHAT IT READS IS OF BULK AT MOST 1048576: true; the input reads as it did. -/
def reprLongsUptoRow : OpenClaim := { program := "ytmnaljnkgaebkaa", sum := "41e6cd5c97541bdbb93b10910449dc5b947312af3e2c5040637537bcd316cb4b", func := "footman/footmanlaw05.ReprLongs", spec := "reprLongs", inPlace := ["sync/atomic.LoadUint32", "(*internal/sync.Mutex).Lock", "internal/race.Disable", "sync/atomic.CompareAndSwapInt32", "internal/race.Enable", "internal/race.Acquire", "(*internal/sync.Mutex).lockSlow", "internal/sync.runtime_canSpin", "internal/sync.runtime_doSpin", "internal/sync.throw", "internal/sync.runtime_nanotime", "internal/sync.runtime_SemacquireMutex", "sync/atomic.AddInt32", "(*internal/sync.Mutex).Unlock", "internal/race.ReleaseMerge", "(*internal/sync.Mutex).unlockSlow", "internal/sync.fatal", "internal/sync.runtime_Semrelease", "sync/atomic.StoreUint32"], unfollowed := true, recurses := true, apart := false, narrowed := true }
def ReprLongsUptoSaid : Prop := reprLongsUptoRow.holds Try.pinned (OpenSpec.upto reprLongsSpec)

/-- 'footmanlaw05.ReprBack', WHERE WHAT IT READS IS OF BULK AT MOST 1048576: true; the input reads as it did. -/
def reprBackUptoRow : OpenClaim := { program := "ytmnaljnkgaebkaa", sum := "41e6cd5c97541bdbb93b10910449dc5b947312af3e2c5040637537bcd316cb4b", func := "footman/footmanlaw05.ReprBack", spec := "reprBack", inPlace := ["sync/atomic.LoadUint32", "(*internal/sync.Mutex).Lock", "internal/race.Disable", "sync/atomic.CompareAndSwapInt32", "internal/race.Enable", "internal/race.Acquire", "(*internal/sync.Mutex).lockSlow", "internal/sync.runtime_canSpin", "internal/sync.runtime_doSpin", "internal/sync.throw", "internal/sync.runtime_nanotime", "internal/sync.runtime_SemacquireMutex", "sync/atomic.AddInt32", "(*internal/sync.Mutex).Unlock", "internal/race.ReleaseMerge", "(*internal/sync.Mutex).unlockSlow", "internal/sync.fatal", "internal/sync.runtime_Semrelease", "sync/atomic.StoreUint32"], unfollowed := true, recurses := true, apart := false, narrowed := true }
def ReprBackUptoSaid : Prop := reprBackUptoRow.holds Try.pinned (OpenSpec.upto reprBackSpec)

end Rows
end Go.Proofs.Ytmnaljnkgaebkaa
