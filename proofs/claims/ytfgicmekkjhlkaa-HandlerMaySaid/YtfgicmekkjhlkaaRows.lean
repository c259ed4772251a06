/-
  No cell of these rows narrows 'for every input' (looked for: loops, veiled, ifaces, maps, wideKeys, modest, calm, conditions, laid).
  DERIVED. THE GIVEN ROWS OF THIS SEAT. 3 by the template 'for every input the law returns true; each argument reads behind the call as it read before'; 0 by the template 'total and deterministic' (their statements: YtfgicmekkjhlkaaTotals.lean).
  GIVEN WITH THE SEED: the statements are not yours to turn. If you find one false, say at which input.
  Laid BY PROGRAM, IN A SANDBOX (cutbox-rows.mjs): the forced cells as the released guide's own fill.sh prints them over the translation 0b7471f13b27d114… (all of the seat's roots in one cut). By AI agents, Wed Nov 11 2026. No macro, syntax, notation, axiom, sorry.
-/
import Derived.Test.YtfgicmekkjhlkaaChecked
import GoSem.Claim
import GoSem.ClaimJoined
import GoSem.ClaimMapViews
import Derived.JoinedTies
import Derived.KernelRfl
namespace Go.Proofs.Ytfgicmekkjhlkaa
/- THE CELL 'sum', in the pinned program and in every row, IS THE sha256 OF THE DUMP (.gsa) THAT YtfgicmekkjhlkaaProg.lean LOADS. Nothing in Lean hashes anything: it is a label: what it is worth is what the hold of that sum in a sandbox is worth. -/
noncomputable def Try.pinned : Pinned := { name := "ytfgicmekkjhlkaa", sum := "0b7471f13b27d114e03d9923e9aef1d602330e2029395300fb1629a9f6ce7104", checked := Try.checked }
namespace Rows
def none {H : Type} : Left H := { results := [], args := [] }

/-- 'footmanlaw28.HandlerLooks': WHATEVER THE INPUT: true; the input reads as it did. -/
def handlerLooksSpec : ChangeSpec := { name := "handlerLooks", fn := fun _ => fun
  | [d1, d2, d3] => { results := [.lit (.bool true)], args := [d1, d2, d3] }
  | _ => none }
def handlerLooksRow : OpenClaim := { program := "ytfgicmekkjhlkaa", sum := "0b7471f13b27d114e03d9923e9aef1d602330e2029395300fb1629a9f6ce7104", func := "footman/footmanlaw28.HandlerLooks", spec := "handlerLooks", inPlace := ["internal/bytealg.IndexByteString", "internal/bytealg.IndexString"], unfollowed := true, recurses := true, named := ["internal/bytealg.MaxLen"], apart := false }
def HandlerLooksSaid : Prop := handlerLooksRow.holds Try.pinned (OpenSpec.ofChange handlerLooksSpec)

/-- ITS FALSE NEIGHBOUR: 'it returns false'. Refute it at one input. -/
def handlerLooksWrong : ChangeSpec := { name := "handlerLooks", fn := fun _ => fun
  | [d1, d2, d3] => { results := [.lit (.bool false)], args := [d1, d2, d3] }
  | _ => none }
def HandlerLooksWrongFalsely : Prop := handlerLooksRow.holds Try.pinned (OpenSpec.ofChange handlerLooksWrong)

/-- 'footmanlaw28.HandlerRoutes': WHATEVER THE INPUT: true; the input reads as it did. -/
def handlerRoutesSpec : ChangeSpec := { name := "handlerRoutes", fn := fun _ => fun
  | [d1, d2] => { results := [.lit (.bool true)], args := [d1, d2] }
  | _ => none }
def handlerRoutesRow : OpenClaim := { program := "ytfgicmekkjhlkaa", sum := "0b7471f13b27d114e03d9923e9aef1d602330e2029395300fb1629a9f6ce7104", func := "footman/footmanlaw28.HandlerRoutes", spec := "handlerRoutes", inPlace := ["internal/bytealg.IndexByteString", "internal/bytealg.IndexString"], unfollowed := true, recurses := true, named := ["internal/bytealg.MaxLen"], apart := false }
def HandlerRoutesSaid : Prop := handlerRoutesRow.holds Try.pinned (OpenSpec.ofChange handlerRoutesSpec)

/-- ITS FALSE NEIGHBOUR: 'it returns false'. Refute it at one input. -/
def handlerRoutesWrong : ChangeSpec := { name := "handlerRoutes", fn := fun _ => fun
  | [d1, d2] => { results := [.lit (.bool false)], args := [d1, d2] }
  | _ => none }
def HandlerRoutesWrongFalsely : Prop := handlerRoutesRow.holds Try.pinned (OpenSpec.ofChange handlerRoutesWrong)

/-- 'footmanlaw28.HandlerMay': WHATEVER THE INPUT: true; the input reads as it did. -/
def handlerMaySpec : ChangeSpec := { name := "handlerMay", fn := fun _ => fun
  | [d1, d2] => { results := [.lit (.bool true)], args := [d1, d2] }
  | _ => none }
def handlerMayRow : OpenClaim := { program := "ytfgicmekkjhlkaa", sum := "0b7471f13b27d114e03d9923e9aef1d602330e2029395300fb1629a9f6ce7104", func := "footman/footmanlaw28.HandlerMay", spec := "handlerMay", inPlace := ["internal/bytealg.IndexByteString", "internal/bytealg.IndexString"], unfollowed := true, recurses := true, named := ["internal/bytealg.MaxLen"], apart := false }
def HandlerMaySaid : Prop := handlerMayRow.holds Try.pinned (OpenSpec.ofChange handlerMaySpec)

/-- ITS FALSE NEIGHBOUR: 'it returns false'. Refute it at one input. -/
def handlerMayWrong : ChangeSpec := { name := "handlerMay", fn := fun _ => fun
  | [d1, d2] => { results := [.lit (.bool false)], args := [d1, d2] }
  | _ => none }
def HandlerMayWrongFalsely : Prop := handlerMayRow.holds Try.pinned (OpenSpec.ofChange handlerMayWrong)

/- THE SECOND FORM. 'bulk': how many values and letters a reading holds, each counted each time it is reached (what is shared counts as often as it is met; a slice's spare places count too). A statement '..UptoSaid' is the law's where the arguments, and the package variables that the reading takes, are together of bulk at most 1048576: NARROWER than '..Said'. Prove '..Said' where nothing that the law and all that it calls make is longer than what came in: it says more and counts as full. Else prove '..UptoSaid'. A law counts once. -/
mutual
def uptoBulk {H : Type} : DataW H → Nat
  | .lit (.string bytes) => bytes.length + 1
  | .lit _ => 1
  | .nil => 1
  | .ptr d => uptoBulk d + 1
  | .slice elems spare => uptoBulkAll elems + uptoBulkAll spare + 1
  | .agg parts => uptoBulkAll parts + 1
  | .iface _ d => uptoBulk d + 1
  | .map entries => uptoBulkEntries entries + 1
  | .held _ => 1
def uptoBulkAll {H : Type} : List (DataW H) → Nat
  | [] => 0
  | d :: r => uptoBulk d + uptoBulkAll r
def uptoBulkEntries {H : Type} : List (Lit × DataW H) → Nat
  | [] => 0
  | x :: r => uptoBulkEntry x + uptoBulkEntries r
def uptoBulkEntry {H : Type} : Lit × DataW H → Nat
  | (.string bytes, d) => bytes.length + uptoBulk d + 1
  | (_, d) => uptoBulk d + 1
 end
def uptoSmall : (H : Type) → List (DataW H) → Bool := fun _ ds => decide (uptoBulkAll ds ≤ 1048576)
def OpenSpec.upto (s : _root_.Go.ChangeSpec) : _root_.Go.OpenSpec := { _root_.Go.OpenSpec.ofChange s with cond := some uptoSmall }

/-- 'footmanlaw28.HandlerLooks', WHERE WHAT IT READS IS OF BULK AT MOST 1048576: true; the input reads as it did. -/
def handlerLooksUptoRow : OpenClaim := { program := "ytfgicmekkjhlkaa", sum := "0b7471f13b27d114e03d9923e9aef1d602330e2029395300fb1629a9f6ce7104", func := "footman/footmanlaw28.HandlerLooks", spec := "handlerLooks", inPlace := ["internal/bytealg.IndexByteString", "internal/bytealg.IndexString"], unfollowed := true, recurses := true, named := ["internal/bytealg.MaxLen"], apart := false, narrowed := true }
def HandlerLooksUptoSaid : Prop := handlerLooksUptoRow.holds Try.pinned (OpenSpec.upto handlerLooksSpec)

/-- 'footmanlaw28.HandlerRoutes', WHERE WHAT IT READS IS OF BULK AT MOST 1048576: true; the input reads as it did. -/
def handlerRoutesUptoRow : OpenClaim := { program := "ytfgicmekkjhlkaa", sum := "0b7471f13b27d114e03d9923e9aef1d602330e2029395300fb1629a9f6ce7104", func := "footman/footmanlaw28.HandlerRoutes", spec := "handlerRoutes", inPlace := ["internal/bytealg.IndexByteString", "internal/bytealg.IndexString"], unfollowed := true, recurses := true, named := ["internal/bytealg.MaxLen"], apart := false, narrowed := true }
def HandlerRoutesUptoSaid : Prop := handlerRoutesUptoRow.holds Try.pinned (OpenSpec.upto handlerRoutesSpec)

/-- 'footmanlaw28.HandlerMay', WHERE WHAT IT READS IS OF BULK AT MOST 1048576: true; the input reads as it did. -/
def handlerMayUptoRow : OpenClaim := { program := "ytfgicmekkjhlkaa", sum := "0b7471f13b27d114e03d9923e9aef1d602330e2029395300fb1629a9f6ce7104", func := "footman/footmanlaw28.HandlerMay", spec := "handlerMay", inPlace := ["internal/bytealg.IndexByteString", "internal/bytealg.IndexString"], unfollowed := true, recurses := true, named := ["internal/bytealg.MaxLen"], apart := false, narrowed := true }
def HandlerMayUptoSaid : Prop := handlerMayUptoRow.holds Try.pinned (OpenSpec.upto handlerMaySpec)

end Rows
end Go.Proofs.Ytfgicmekkjhlkaa
