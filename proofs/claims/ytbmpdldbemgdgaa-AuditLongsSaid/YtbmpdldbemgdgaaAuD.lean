/- The statement AuditLongs: the machine's run of it. -/
import Derived.Test.YtbmpdldbemgdgaaExSq
import Derived.Test.YtbmpdldbemgdgaaProg
namespace Go.Proofs.Ytbmpdldbemgdgaa
open Go.RowKit
set_option linter.unusedVariables false

noncomputable def auF : Func := Try.f3
noncomputable def auB : Code := auF.body.getD .skip
noncomputable def auC1 : Code := sndC auB
noncomputable def auC2 : Code := sndC auC1
noncomputable def auC3 : Code := sndC auC2
noncomputable def auC4 : Code := sndC auC3
noncomputable def auC5 : Code := sndC auC4
noncomputable def auC6 : Code := sndC auC5
noncomputable def auOps : Array Oper := opsC (fstC auC5)
/-- What is told of operations on unknown values: 0 n, 1 2 3 inc, 4 n, 5 the length, 9 inc less the length, 10 65535 less the length, 11 inc less 65535; 1006 the bytes, 1007 the text, 1008 the payload. -/
noncomputable def auT (cA cB : Bool) : Tabs where
  bins := [(.rem, .un 4, .int .i64 17001, .un 5), (.gtr, .un 5, .int .i64 16384, .bool cA), (.gtr, .un 5, .un 3, .bool cB), (.gtr, .un 3, .int .i64 2147483647, .bool false),
    (.geq, .un 3, .int .i64 0, .bool true), (.leq, .un 3, .int .i64 2147483647, .bool true), (.sub, .un 3, .int .i64 65535, .un 11), (.add, .int .i64 65535, .un 11, .un 3), (.leq, .int .i64 (-2147483647), .un 3, .bool true),
    (.sub, .un 3, .un 5, .un 9), (.sub, .int .i64 65535, .un 5, .un 10), (.eql, .un 10, .un 10, .bool true), (.eql, .un 3, .un 3, .bool true)]
  cnvs := [(22, 29, .un 1, .un 2), (29, 3, .un 2, .un 3), (22, 3, .un 0, .un 4), (22, 3, .un 1, .un 3)]
  blts := [(.len, [9], [.un 1007], .un 5), (.append, [37, 9], [.nils, .un 1007], .un 1008), (.append, [37, 3], [.un 1008, .int .i64 0], .un 1008), (.len, [37], [.un 1008], .un 5),
    (.min, [3, 3], [.un 3, .int .i64 65535], .un 3)]
noncomputable def auOra (cA cB : Bool) : Ora where
  fn := fun f => bif Nat.beq f 9 then some (fun args => match args with | [] => ret (.bool true) | _ => fail [199]) else none
  tab := tabOf (auT cA cB)
noncomputable def auX (cA cB : Bool) : Mach := ⟨fun _ => none, exOpT Try.prog (auOra cA cB).tab (callM Try.prog (auOra cA cB) (exec Try.prog (fun _ => none) (auOra cA cB) 400))⟩
noncomputable def is5 (x : Option AV) : Bool := match x with | some (.un 5) => true | _ => false
noncomputable def auR (cA cB : Bool) : M AV :=
  want (dstOK auF.ntmps auOps) 183 <|
  bnd (exec Try.prog (fun _ => none) (auOra cA cB) 400 auF.ntmps (fstC auB) (Tr.fill [.un 0, .un 1] 0 (blank auF.ntmps))) <| goOn fun a =>
  bnd (exec Try.prog (fun _ => none) (auOra cA cB) 400 auF.ntmps (fstC auC1) a) <| goOn fun a =>
  bnd (exec Try.prog (fun _ => none) (auOra cA cB) 400 auF.ntmps (fstC auC2) a) <| goOn fun a =>
  bnd (exec Try.prog (fun _ => none) (auOra cA cB) 400 auF.ntmps (fstC auC3) a) <| goOn fun a =>
  bnd (exec Try.prog (fun _ => none) (auOra cA cB) 400 auF.ntmps (fstC auC4) a) <| goOn fun a =>
  bnd (opM (auX cA cB) auOps 0 a) fun a => bnd (opM (auX cA cB) auOps 1 a) fun a => bnd (opM (auX cA cB) auOps 2 a) fun a => want (is5 (a.get 30)) 182 <|
  bnd (opM (auX cA cB) auOps 5 ((a.set 31 (.un 1006)).set 32 (.un 1007))) fun a => bnd (opM (auX cA cB) auOps 6 a) fun a => bnd (opM (auX cA cB) auOps 7 a) fun a =>
  bnd (exec Try.prog (fun _ => none) (auOra cA cB) 400 auF.ntmps auC6 a) (endM Try.prog auF)
end Go.Proofs.Ytbmpdldbemgdgaa

