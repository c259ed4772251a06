/-
  No cell of these rows narrows 'for every input' (looked for: loops, veiled, ifaces, maps, wideKeys, modest, calm, conditions, laid).
  DERIVED. THE GIVEN ROWS OF THIS SEAT. 5 by the template 'for every input the law returns true; each argument reads behind the call as it read before'; 0 by the template 'total and deterministic' (their statements: YteceinojmdgmeaaTotals.lean).
  GIVEN WITH THE SEED: the statements are not yours to turn. If you find one false, say at which input.
  Laid BY PROGRAM, IN A SANDBOX (cutbox-rows.mjs): the forced cells as the released guide's own fill.sh prints them over the translation 0f701e5b346ae970… (all of the seat's roots in one cut). By AI agents, Wed Nov 11 2026. No macro, syntax, notation, axiom, sorry.
-/
import Derived.Test.YteceinojmdgmeaaChecked
import GoSem.Claim
import GoSem.ClaimJoined
import GoSem.ClaimMapViews
import Derived.JoinedTies
import Derived.KernelRfl
namespace Go.Proofs.Yteceinojmdgmeaa
/- THE CELL 'sum', in the pinned program and in every row, IS THE sha256 OF THE DUMP (.gsa) THAT YteceinojmdgmeaaProg.lean LOADS. Nothing in Lean hashes anything: it is a label: what it is worth is what the hold of that sum in a sandbox is worth. -/
noncomputable def Try.pinned : Pinned := { name := "yteceinojmdgmeaa", sum := "0f701e5b346ae9705b227d60062fe1354e102cf63a8146aabc5bcd801c6ef8e7", checked := Try.checked }
namespace Rows
def none {H : Type} : Left H := { results := [], args := [] }

/-- 'footmanlaw07.HencLongs': WHATEVER THE INPUT: true; the input reads as it did. -/
def hencLongsSpec : ChangeSpec := { name := "hencLongs", fn := fun _ => fun
  | [d1, d2] => { results := [.lit (.bool true)], args := [d1, d2] }
  | _ => none }
def hencLongsRow : OpenClaim := { program := "yteceinojmdgmeaa", sum := "0f701e5b346ae9705b227d60062fe1354e102cf63a8146aabc5bcd801c6ef8e7", func := "footman/footmanlaw07.HencLongs", spec := "hencLongs", inPlace := ["slices.overlaps[footman/api.Field]"], unfollowed := true, recurses := true, apart := false }
def HencLongsSaid : Prop := hencLongsRow.holds Try.pinned (OpenSpec.ofChange hencLongsSpec)

/-- ITS FALSE NEIGHBOUR: 'it returns false'. Refute it at one input. -/
def hencLongsWrong : ChangeSpec := { name := "hencLongs", fn := fun _ => fun
  | [d1, d2] => { results := [.lit (.bool false)], args := [d1, d2] }
  | _ => none }
def HencLongsWrongFalsely : Prop := hencLongsRow.holds Try.pinned (OpenSpec.ofChange hencLongsWrong)

/-- 'footmanlaw06.HdecSteps': WHATEVER THE INPUT: true; the input reads as it did. -/
def hdecStepsSpec : ChangeSpec := { name := "hdecSteps", fn := fun _ => fun
  | [d1, d2, d3] => { results := [.lit (.bool true)], args := [d1, d2, d3] }
  | _ => none }
def hdecStepsRow : OpenClaim := { program := "yteceinojmdgmeaa", sum := "0f701e5b346ae9705b227d60062fe1354e102cf63a8146aabc5bcd801c6ef8e7", func := "footman/footmanlaw06.HdecSteps", spec := "hdecSteps", inPlace := ["sync/atomic.LoadUint32", "(*internal/sync.Mutex).Lock", "internal/race.Disable", "sync/atomic.CompareAndSwapInt32", "internal/race.Enable", "internal/race.Acquire", "(*internal/sync.Mutex).lockSlow", "internal/sync.runtime_canSpin", "internal/sync.runtime_doSpin", "internal/sync.throw", "internal/sync.runtime_nanotime", "internal/sync.runtime_SemacquireMutex", "sync/atomic.AddInt32", "(*internal/sync.Mutex).Unlock", "internal/race.ReleaseMerge", "(*internal/sync.Mutex).unlockSlow", "internal/sync.fatal", "internal/sync.runtime_Semrelease", "sync/atomic.StoreUint32", "slices.overlaps[footman/api.Field]"], unfollowed := true, recurses := true, apart := false }
def HdecStepsSaid : Prop := hdecStepsRow.holds Try.pinned (OpenSpec.ofChange hdecStepsSpec)

/-- ITS FALSE NEIGHBOUR: 'it returns false'. Refute it at one input. -/
def hdecStepsWrong : ChangeSpec := { name := "hdecSteps", fn := fun _ => fun
  | [d1, d2, d3] => { results := [.lit (.bool false)], args := [d1, d2, d3] }
  | _ => none }
def HdecStepsWrongFalsely : Prop := hdecStepsRow.holds Try.pinned (OpenSpec.ofChange hdecStepsWrong)

/-- 'footmanlaw06.HdecGreat': WHATEVER THE INPUT: true; the input reads as it did. -/
def hdecGreatSpec : ChangeSpec := { name := "hdecGreat", fn := fun _ => fun
  | [d1, d2, d3] => { results := [.lit (.bool true)], args := [d1, d2, d3] }
  | _ => none }
def hdecGreatRow : OpenClaim := { program := "yteceinojmdgmeaa", sum := "0f701e5b346ae9705b227d60062fe1354e102cf63a8146aabc5bcd801c6ef8e7", func := "footman/footmanlaw06.HdecGreat", spec := "hdecGreat", inPlace := ["sync/atomic.LoadUint32", "(*internal/sync.Mutex).Lock", "internal/race.Disable", "sync/atomic.CompareAndSwapInt32", "internal/race.Enable", "internal/race.Acquire", "(*internal/sync.Mutex).lockSlow", "internal/sync.runtime_canSpin", "internal/sync.runtime_doSpin", "internal/sync.throw", "internal/sync.runtime_nanotime", "internal/sync.runtime_SemacquireMutex", "sync/atomic.AddInt32", "(*internal/sync.Mutex).Unlock", "internal/race.ReleaseMerge", "(*internal/sync.Mutex).unlockSlow", "internal/sync.fatal", "internal/sync.runtime_Semrelease", "sync/atomic.StoreUint32", "slices.overlaps[footman/api.Field]"], unfollowed := true, recurses := true, apart := false }
def HdecGreatSaid : Prop := hdecGreatRow.holds Try.pinned (OpenSpec.ofChange hdecGreatSpec)

/-- ITS FALSE NEIGHBOUR: 'it returns false'. Refute it at one input. -/
def hdecGreatWrong : ChangeSpec := { name := "hdecGreat", fn := fun _ => fun
  | [d1, d2, d3] => { results := [.lit (.bool false)], args := [d1, d2, d3] }
  | _ => none }
def HdecGreatWrongFalsely : Prop := hdecGreatRow.holds Try.pinned (OpenSpec.ofChange hdecGreatWrong)

/-- 'footmanlaw06.HdecForms': WHATEVER THE INPUT: true; the input reads as it did. -/
def hdecFormsSpec : ChangeSpec := { name := "hdecForms", fn := fun _ => fun
  | [d] => { results := [.lit (.bool true)], args := [d] }
  | _ => none }
def hdecFormsRow : OpenClaim := { program := "yteceinojmdgmeaa", sum := "0f701e5b346ae9705b227d60062fe1354e102cf63a8146aabc5bcd801c6ef8e7", func := "footman/footmanlaw06.HdecForms", spec := "hdecForms", inPlace := ["sync/atomic.LoadUint32", "(*internal/sync.Mutex).Lock", "internal/race.Disable", "sync/atomic.CompareAndSwapInt32", "internal/race.Enable", "internal/race.Acquire", "(*internal/sync.Mutex).lockSlow", "internal/sync.runtime_canSpin", "internal/sync.runtime_doSpin", "internal/sync.throw", "internal/sync.runtime_nanotime", "internal/sync.runtime_SemacquireMutex", "sync/atomic.AddInt32", "(*internal/sync.Mutex).Unlock", "internal/race.ReleaseMerge", "(*internal/sync.Mutex).unlockSlow", "internal/sync.fatal", "internal/sync.runtime_Semrelease", "sync/atomic.StoreUint32", "slices.overlaps[footman/api.Field]"], unfollowed := true, recurses := true, apart := false }
def HdecFormsSaid : Prop := hdecFormsRow.holds Try.pinned (OpenSpec.ofChange hdecFormsSpec)

/-- ITS FALSE NEIGHBOUR: 'it returns false'. Refute it at one input. -/
def hdecFormsWrong : ChangeSpec := { name := "hdecForms", fn := fun _ => fun
  | [d] => { results := [.lit (.bool false)], args := [d] }
  | _ => none }
def HdecFormsWrongFalsely : Prop := hdecFormsRow.holds Try.pinned (OpenSpec.ofChange hdecFormsWrong)

/-- 'footmanlaw07.HencBack': WHATEVER THE INPUT: true; the input reads as it did. -/
def hencBackSpec : ChangeSpec := { name := "hencBack", fn := fun _ => fun
  | [d] => { results := [.lit (.bool true)], args := [d] }
  | _ => none }
def hencBackRow : OpenClaim := { program := "yteceinojmdgmeaa", sum := "0f701e5b346ae9705b227d60062fe1354e102cf63a8146aabc5bcd801c6ef8e7", func := "footman/footmanlaw07.HencBack", spec := "hencBack", inPlace := ["slices.overlaps[footman/api.Field]", "sync/atomic.LoadUint32", "(*internal/sync.Mutex).Lock", "internal/race.Disable", "sync/atomic.CompareAndSwapInt32", "internal/race.Enable", "internal/race.Acquire", "(*internal/sync.Mutex).lockSlow", "internal/sync.runtime_canSpin", "internal/sync.runtime_doSpin", "internal/sync.throw", "internal/sync.runtime_nanotime", "internal/sync.runtime_SemacquireMutex", "sync/atomic.AddInt32", "(*internal/sync.Mutex).Unlock", "internal/race.ReleaseMerge", "(*internal/sync.Mutex).unlockSlow", "internal/sync.fatal", "internal/sync.runtime_Semrelease", "sync/atomic.StoreUint32"], unfollowed := true, recurses := true, apart := false }
def HencBackSaid : Prop := hencBackRow.holds Try.pinned (OpenSpec.ofChange hencBackSpec)

/-- ITS FALSE NEIGHBOUR: 'it returns false'. Refute it at one input. -/
def hencBackWrong : ChangeSpec := { name := "hencBack", fn := fun _ => fun
  | [d] => { results := [.lit (.bool false)], args := [d] }
  | _ => none }
def HencBackWrongFalsely : Prop := hencBackRow.holds Try.pinned (OpenSpec.ofChange hencBackWrong)

/- THE SECOND FORM. 'bulk': how many values and letters a reading holds, each counted each time it is reached (what is shared counts as often as it is met; a slice's spare places count too). A statement '..UptoSaid' is the law's where the arguments, and the package variables that the reading takes, are together of bulk at most 1048576: NARROWER than '..Said'. Prove '..Said' where nothing that the law and all that it calls make is longer than what came in: it says more and counts as full. Else prove '..UptoSaid'. A law counts once. -/
mutual
def uptoBulk {H : Type} : DataW H → Nat
  | .lit (.string bytes) => bytes.length + 1
  | .lit _ => 1
  | .nil => 1
  | .ptr d => uptoBulk d + 1
  | .slice elems spare => uptoBulkAll elems + uptoBulkAll spare + 1
  | .agg parts => uptoBulkAll parts + 1
  | .iface _ d => uptoBulk d + 1
  | .map entries => uptoBulkEntries entries + 1
  | .held _ => 1
def uptoBulkAll {H : Type} : List (DataW H) → Nat
  | [] => 0
  | d :: r => uptoBulk d + uptoBulkAll r
def uptoBulkEntries {H : Type} : List (Lit × DataW H) → Nat
  | [] => 0
  | x :: r => uptoBulkEntry x + uptoBulkEntries r
def uptoBulkEntry {H : Type} : Lit × DataW H → Nat
  | (.string bytes, d) => bytes.length + uptoBulk d + 1
  | (_, d) => uptoBulk d + 1
 end
def uptoSmall : (H : Type) → List (DataW H) → Bool := fun _ ds => decide (uptoBulkAll ds ≤ 1048576)
def OpenSpec.upto (s : _root_.Go.ChangeSpec) : _root_.Go.OpenSpec := { _root_.Go.OpenSpec.ofChange s with cond := some uptoSmall }

/-- 'footmanlaw07.HencLongs', WHERE WHAT IT READS IS OF BULK AT MOST 1048576: true; the input reads as it did. -/
def hencLongsUptoRow : OpenClaim := { program := "yteceinojmdgmeaa", sum := "0f701e5b346ae9705b227d60062fe1354e102cf63a8146aabc5bcd801c6ef8e7", func := "footman/footmanlaw07.HencLongs", spec := "hencLongs", inPlace := ["slices.overlaps[footman/api.Field]"], unfollowed := true, recurses := true, apart := false, narrowed := true }
def HencLongsUptoSaid : Prop := hencLongsUptoRow.holds Try.pinned (OpenSpec.upto hencLongsSpec)

/-- 'footmanlaw06.HdecSteps', WHERE WHAT IT READS IS OF BULK AT MOST 1048576: true; the input reads as it did. -/
def hdecStepsUptoRow : OpenClaim := { program := "yteceinojmdgmeaa", sum := "0f701e5b346ae9705b227d60062fe1354e102cf63a8146aabc5bcd801c6ef8e7", func := "footman/footmanlaw06.HdecSteps", spec := "hdecSteps", inPlace := ["sync/atomic.LoadUint32", "(*internal/sync.Mutex).Lock", "internal/race.Disable", "sync/atomic.CompareAndSwapInt32", "internal/race.Enable", "internal/race.Acquire", "(*internal/sync.Mutex).lockSlow", "internal/sync.runtime_canSpin", "internal/sync.runtime_doSpin", "internal/sync.throw", "internal/sync.runtime_nanotime", "internal/sync.runtime_SemacquireMutex", "sync/atomic.AddInt32", "(*internal/sync.Mutex).Unlock", "internal/race.ReleaseMerge", "(*internal/sync.Mutex).unlockSlow", "internal/sync.fatal", "internal/sync.runtime_Semrelease", "sync/atomic.StoreUint32", "slices.overlaps[footman/api.Field]"], unfollowed := true, recurses := true, apart := false, narrowed := true }
def HdecStepsUptoSaid : Prop := hdecStepsUptoRow.holds Try.pinned (OpenSpec.upto hdecStepsSpec)

/-- 'footmanlaw06.HdecGreat', WHERE WHAT IT READS IS OF BULK AT MOST 1048576: true; the input reads as it did. -/
def hdecGreatUptoRow : OpenClaim := { program := "yteceinojmdgmeaa", sum := "0f701e5b346ae9705b227d60062fe1354e102cf63a8146aabc5bcd801c6ef8e7", func := "footman/footmanlaw06.HdecGreat", spec := "hdecGreat", inPlace := ["sync/atomic.LoadUint32", "(*internal/sync.Mutex).Lock", "internal/race.Disable", "sync/atomic.CompareAndSwapInt32", "internal/race.Enable", "internal/race.Acquire", "(*internal/sync.Mutex).lockSlow", "internal/sync.runtime_canSpin", "internal/sync.runtime_doSpin", "internal/sync.throw", "internal/sync.runtime_nanotime", "internal/sync.runtime_SemacquireMutex", "sync/atomic.AddInt32", "(*internal/sync.Mutex).Unlock", "internal/race.ReleaseMerge", "(*internal/sync.Mutex).unlockSlow", "internal/sync.fatal", "internal/sync.runtime_Semrelease", "sync/atomic.StoreUint32", "slices.overlaps[footman/api.Field]"], unfollowed := true, recurses := true, apart := false, narrowed := true }
def HdecGreatUptoSaid : Prop := hdecGreatUptoRow.holds Try.pinned (OpenSpec.upto hdecGreatSpec)

/-- 'footmanlaw06.HdecForms', WHERE WHAT IT READS IS OF BULK AT MOST 1048576: true; the input reads as it did. -/
def hdecFormsUptoRow : OpenClaim := { program := "yteceinojmdgmeaa", sum := "0f701e5b346ae9705b227d60062fe1354e102cf63a8146aabc5bcd801c6ef8e7", func := "footman/footmanlaw06.HdecForms", spec := "hdecForms", inPlace := ["sync/atomic.LoadUint32", "(*internal/sync.Mutex).Lock", "internal/race.Disable", "sync/atomic.CompareAndSwapInt32", "internal/race.Enable", "internal/race.Acquire", "(*internal/sync.Mutex).lockSlow", "internal/sync.runtime_canSpin", "internal/sync.runtime_doSpin", "internal/sync.throw", "internal/sync.runtime_nanotime", "internal/sync.runtime_SemacquireMutex", "sync/atomic.AddInt32", "(*internal/sync.Mutex).Unlock", "internal/race.ReleaseMerge", "(*internal/sync.Mutex).unlockSlow", "internal/sync.fatal", "internal/sync.runtime_Semrelease", "sync/atomic.StoreUint32", "slices.overlaps[footman/api.Field]"], unfollowed := true, recurses := true, apart := false, narrowed := true }
def HdecFormsUptoSaid : Prop := hdecFormsUptoRow.holds Try.pinned (OpenSpec.upto hdecFormsSpec)

/-- 'footmanlaw07.HencBack', WHERE WHAT IT READS IS OF BULK AT MOST 1048576: true; the input reads as it did. -/
def hencBackUptoRow : OpenClaim := { program := "yteceinojmdgmeaa", sum := "0f701e5b346ae9705b227d60062fe1354e102cf63a8146aabc5bcd801c6ef8e7", func := "footman/footmanlaw07.HencBack", spec := "hencBack", inPlace := ["slices.overlaps[footman/api.Field]", "sync/atomic.LoadUint32", "(*internal/sync.Mutex).Lock", "internal/race.Disable", "sync/atomic.CompareAndSwapInt32", "internal/race.Enable", "internal/race.Acquire", "(*internal/sync.Mutex).lockSlow", "internal/sync.runtime_canSpin", "internal/sync.runtime_doSpin", "internal/sync.throw", "internal/sync.runtime_nanotime", "internal/sync.runtime_SemacquireMutex", "sync/atomic.AddInt32", "(*internal/sync.Mutex).Unlock", "internal/race.ReleaseMerge", "(*internal/sync.Mutex).unlockSlow", "internal/sync.fatal", "internal/sync.runtime_Semrelease", "sync/atomic.StoreUint32"], unfollowed := true, recurses := true, apart := false, narrowed := true }
def HencBackUptoSaid : Prop := hencBackUptoRow.holds Try.pinned (OpenSpec.upto hencBackSpec)

end Rows
end Go.Proofs.Yteceinojmdgmeaa
