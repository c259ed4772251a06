/- A path is cleaned: query.up, query.Clean. -/
import Derived.Test.YtbpcknjobbjmpaaDoorQryF
namespace Go.Proofs.YtbpcknjobbjmpaaDoor
open Go.RowKit
set_option linter.unusedVariables false
set_option linter.unusedSimpArgs false

theorem OwnS.take {w : World} {B : Nat} {oa : Option Addr} {cap : Nat} {L : List ByteArray} (h : OwnS w B (.slice oa L.length cap) L) (k : Nat) (hk : k ≤ L.length) : OwnS w B (.slice oa k cap) (L.take k) := by
  have hkl : (L.take k).length = k := by rw [List.length_take]; omega
  refine ⟨by simp, ?_⟩
  rw [hkl]
  rcases h.2 with ⟨e, h0⟩ | ⟨g, cap', cur, e, hb, hg, h1, h2, h3, h4⟩
  · obtain ⟨rfl, _, rfl⟩ : oa = none ∧ L.length = 0 ∧ cap = 0 := by simpa using e
    exact .inl ⟨by rw [show k = 0 from by omega], by omega⟩
  · obtain ⟨rfl, _, rfl⟩ : oa = some ⟨g, 0, none⟩ ∧ L.length = L.length ∧ cap = cap' := by simpa using e
    refine .inr ⟨g, cap, cur, rfl, hb, hg, by omega, h2, h3, ?_⟩
    rw [List.map_take, ← h4, List.take_take]
    congr 1
    omega
def upL (L : List ByteArray) : List ByteArray := L.take (L.length - 1)
theorem up_any (w : World) (B : Nat) (v : Value) (L : List ByteArray) (hl : L.length ≤ 1000000) (h : OwnS w B v L) :
    Calls Tryd.prog 54 #[v] w fun e w' => ∃ v', e = .returned v' ∧ OwnS w' B v' (upL L) ∧ w' = w := by
  obtain ⟨oa, cap, rfl, _, hc⟩ := h.form
  have HT := Lib.hid (h.take (L.length - 1) (by omega))
  unfold upL
  have hm : IntKind.i64.wrap ((L.length : Int) - 1) = (L.length : Int) - 1 := IntWalk.i64_in _ (by omega)
  have hmx : max 0 ((L.length : Int) - 1) = ((L.length - 1 : Nat) : Int) := by omega
  have h1 : ((L.length - 1 : Nat) : Int) ≤ (cap : Int) := by omega
  generalize L.length - 1 = k at *
  generalize L.length = n at *
  clear h
  go_enter Tryd.func54, Tryd.ntmps54
  go_wp2_with fail
  go_ret
  exact ⟨_, rfl, HT.out, rfl⟩
end Go.Proofs.YtbpcknjobbjmpaaDoor
