/- The names that were seen, how often: a map of the call's own. -/
import Derived.Test.YtecmccihldjicaaDoorReqC
import Derived.Maps.OwnOps
import Derived.Maps.Views
import Derived.StringKeys
namespace Go.Proofs.YtecmccihldjicaaDoor
open Go.RowKit Go.Maps Go.WideMaps Go.MapKept Go.ChangeMaps
set_option linter.unusedVariables false
set_option linter.unusedSimpArgs false

def cntN (L : List Fld) (l : List UInt8) : Nat := (L.filter fun f => f.name.data.toList == l).length
theorem cntN_nil (l : List UInt8) : cntN [] l = 0 := rfl
theorem cntN_le (L : List Fld) (l : List UInt8) : cntN L l ≤ L.length := List.length_filter_le _ _
theorem cntN_snoc (L : List Fld) (f : Fld) (l : List UInt8) : cntN (L ++ [f]) l = cntN L l + (if f.name.data.toList = l then 1 else 0) := by
  unfold cntN
  rw [List.filter_append, List.length_append]
  by_cases h : f.name.data.toList = l
  · simp [h]
  · simp [h]
/-- A map of names, that holds how often each stands in L. -/
def SeenM (w : World) (b : Nat) (L : List Fld) : Prop := ∃ D : DataW Unit, IsMap D ∧ w.ownsMap Tryd.prog 9 (plainElem Tryd.prog 3) b L.length D ∧ ∀ l : List UInt8, D.atKey (.string l) (.lit (.int .i64 0)) = .lit (.int .i64 (cntN L l : Nat))
theorem SeenM.lt {w : World} {b : Nat} {L : List Fld} (h : SeenM w b L) : b < w.heap.size := by
  obtain ⟨D, _, h, _⟩ := h; exact h.lt
theorem SeenM.keep {w w' : World} {b : Nat} {L : List Fld} (h : SeenM w b L) (hb : w'.heap[b]? = w.heap[b]?) : SeenM w' b L := by
  obtain ⟨D, h1, ⟨es, cl, hh, r⟩, h3⟩ := h
  exact ⟨D, h1, ⟨es, cl, hb.trans hh, r⟩, h3⟩
theorem SeenM.below {w w' : World} {b : Nat} {L : List Fld} (h : SeenM w b L) (hb : Below w.heap.size w w') : SeenM w' b L := h.keep (hb.block b h.lt)
theorem SeenM.made (w : World) : SeenM (w.alloc (.map #[] 0)) w.heap.size [] :=
  ⟨.map [], isMap_empty, World.ownsMap_made w _ _ _, fun l => rfl⟩
theorem zero_int (w : World) : (zeroValue 3).run Tryd.prog w = .ok (.int .i64 0) w := by kernel_rfl
theorem keyB (s : ByteArray) (hs : s.size ≤ maxLen) : keyOf Tryd.prog 9 (.string s) = some (.string s.data.toList) := keyOf_string_mk Tryd.underlying9 hs
/-- 'seen[s]'. -/
theorem wpList_seen (w : World) {ops : Array Oper} {rest : List Oper} {o : Oper} {a : Act} {Q : Exit → Act → World → Prop}
    (hg : o.guard = none) (m x : Operand) (hop : o.op = Op.lookup 46 m x false) (b : Nat) (L : List Fld) (hm : a.eval m = .map (some b)) (h : SeenM w b L) (s : ByteArray) (hs : s.size ≤ maxLen) (hx : a.eval x = .string s)
    (hK : wpList Tryd.prog ops Q rest (a.put o.dst (.int .i64 (cntN L s.data.toList : Nat))) w) : wpList Tryd.prog ops Q (o :: rest) a w := by
  obtain ⟨D, h1, h2, h3⟩ := h
  refine wpList_lookup_own_int _ hg m x 46 hop 9 3 .i64 (string_keyed Tryd.underlying9) Tryd.underlying46 Tryd.underlying3 (zero_int _) b L.length D hm h2 _ _ hx (keyB s hs) ?_
  intro c hat hwc
  rw [h3] at hat
  injection hat with hat
  injection hat with _ hat
  rw [← hat]
  exact hK
/-- 'seen[s] = how often it was seen, and one more'. -/
theorem wpList_seen_put (w : World) {ops : Array Oper} {rest : List Oper} {o : Oper} {a : Act} {Q : Exit → Act → World → Prop}
    (hg : o.guard = none) (m x v : Operand) (hop : o.op = Op.mapUpdate 46 m x v) (b : Nat) (L : List Fld) (hL : L.length ≤ 1000000) (hm : a.eval m = .map (some b)) (h : SeenM w b L) (f : Fld) (hs : f.name.size ≤ maxLen) (hx : a.eval x = .string f.name)
    (hv : a.eval v = .int .i64 ((cntN L f.name.data.toList : Nat) + 1 : Int))
    (hK : ∀ w', SeenM w' b (L ++ [f]) → w.grownBy w' (some b) → wpList Tryd.prog ops Q rest (a.put o.dst undef) w') : wpList Tryd.prog ops Q (o :: rest) a w := by
  obtain ⟨D, h1, h2, h3⟩ := h
  have hle := cntN_le L f.name.data.toList
  have hwf : (Lit.int .i64 ((cntN L f.name.data.toList : Nat) + 1 : Int)).wf = true := by
    simp only [Lit.wf, Bool.and_eq_true, decide_eq_true_eq]
    have e1 : IntKind.i64.min = -9223372036854775808 := by decide
    have e2 : IntKind.i64.max = 9223372036854775807 := by decide
    rw [e1, e2]
    omega
  refine wpList_mapUpdate_own _ hg m x v 46 hop 9 3 (string_keyed Tryd.underlying9) Tryd.underlying46 _ b L.length D hm h2 (by unfold maxLen; omega) _ _ _ hx hv (keyB f.name hs) _ [] (plainElem_int Tryd.underlying3 hwf) ?_
  intro w' hown hg
  refine hK w' ⟨_, h1.put _ _, by rw [List.length_append]; exact hown, fun l => ?_⟩ hg
  rw [cntN_snoc]
  by_cases hl : f.name.data.toList = l
  · subst hl
    rw [atKey_put_same h1 (by trivial), if_pos rfl]
    simp
  · rw [atKey_put_other (by intro e; injection e with e; exact hl e.symm), h3, if_neg hl]
    simp
end Go.Proofs.YtecmccihldjicaaDoor
