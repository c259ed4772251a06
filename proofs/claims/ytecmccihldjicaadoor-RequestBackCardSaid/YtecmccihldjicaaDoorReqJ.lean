/- request.Read in plain words (draft). -/
import Derived.Test.YtecmccihldjicaaDoorReqF
import Derived.Test.YtecmccihldjicaaDoorReqH
import Derived.Test.YtecmccihldjicaaDoorReqI
namespace Go.Proofs.YtecmccihldjicaaDoor
open Go.RowKit Go.Maps
set_option linter.unusedVariables false
set_option linter.unusedSimpArgs false

def colonB (f : Fld) : Bool := Lib.hasPrefix f.name.data.toList [58]
/-- What is known behind the fields L: the reader, and whether none but pseudo fields stand there; none: a field was not right. -/
def readGo : List Fld → Rd → List Fld → Bool → Option (Rd × List Fld)
  | [], r, L, _ => some (r, L)
  | f :: t, r, L, fr =>
    if colonB f then (if fr && psOk L f then readGo t (psSet r f) (L ++ [f]) true else none)
    else (if plOk r L f then readGo t (plSet r L f) (L ++ [f]) false else none)
def rd0 : Rd := ⟨⟨#[]⟩, ⟨#[]⟩, ⟨#[]⟩, ⟨#[]⟩, -1, 3, ⟨#[]⟩⟩
def readS (L : List Fld) (en : Bool) : Option Rd := match readGo L rd0 [] true with
  | none => none
  | some (r, _) => if wholeB r L en then some (if cntN L nAuth = 0 then { r with h := r.host } else r) else none
theorem readGo_drop {L : List Fld} {k : Nat} {f : Fld} (h : L[k]? = some f) : L.drop k = f :: L.drop (k + 1) := by
  obtain ⟨hk, he⟩ := List.getElem?_eq_some_iff.1 h
  rw [List.drop_eq_getElem_cons hk, he]
theorem rd_new (W : World) (b : Nat) : RdAt (W.alloc (.cells #[.string ⟨#[]⟩, .string ⟨#[]⟩, .string ⟨#[]⟩, .string ⟨#[]⟩, .int .i64 (-1), .int .i64 3, .map (some b), .string ⟨#[]⟩] 48)) W.heap.size b rd0 := heap_alloc_new W _
end Go.Proofs.YtecmccihldjicaaDoor
