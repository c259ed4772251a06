/- The statement ServerNobody: the machine's run of it. -/
import Derived.Test.YtlpapdknggjfkaaGreatDoorC40
namespace Go.Proofs.YtlpapdknggjfkaaGreatDoor
open Go.RowKit
set_option linter.unusedVariables false
set_option linter.unusedSimpArgs false

/-- What is told of operations on unknown values: 0 the kind, 1 the ID, 2 N, 3 the text's length; 1000 the text, 1001 its bytes. -/
noncomputable def nbT (long : Bool) (r : Nat) : Tabs where
  bins := [(.gtr, .un 3, .int .i64 400, .bool long), (.rem, .un 0, .int .u8 10, .int .u8 (.ofNat r))]
  cnvs := [(9, 81, .un 1000, .un 1001)]
  blts := [(.len, [9], [.un 1000], .un 3)]
noncomputable def nbF (f : FuncId) : Option (List AV → M AV) := bif Nat.beq f 5 then some (fun args => match args with | [] => ret (.bool true) | _ => fail [199]) else none
noncomputable def nbOra (long : Bool) (r : Nat) : Ora := ⟨nbF, tabOf (nbT long r)⟩
noncomputable def nbR (long : Bool) (r : Nat) : R AV := callM Tryz.prog (nbOra long r) (exec Tryz.prog (fun _ => none) (nbOra long r) 1000) 3 [.agg [.un 0, .un 1, .un 1000, .un 2]] 0 .leaf 0 []
end Go.Proofs.YtlpapdknggjfkaaGreatDoor

