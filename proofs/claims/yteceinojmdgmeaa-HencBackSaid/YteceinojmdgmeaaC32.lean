/- Moves through a region that draws its order: rows that are loaded, rows that are stored, in whatever order. -/
import Derived.WalkKit
import Derived.Deep.RegionHeld
import Derived.Laws.Rows
import Derived.Laws.Tables
namespace Go.Proofs.Yteceinojmdgmeaa
open Go.RowKit
set_option linter.unusedVariables false
set_option linter.unusedSimpArgs false

theorem setRow_comm (w : World) (g h : Nat) (c d : Array Value) (hne : g ≠ h) : (w.setRow g c).setRow h d = (w.setRow h d).setRow g c := by
  unfold World.setRow
  simp only [World.mk.injEq, and_true, true_and]
  apply Array.ext_getElem?
  intro k
  simp only [Array.getElem?_modify]
  by_cases h1 : g = k <;> by_cases h2 : h = k
  · omega
  all_goals simp [h1, h2]
section
variable {P : Program} {ops : Array Oper} {Q : Exit → Act → World → Prop} {md : Region.Mode} {S : World → Prop}
theorem wpOp_store_row {i : Nat} {o : Oper} {a : Act} {w : World} {K : Act → World → Prop} (hi : ops[i]? = some o) (hgd : o.guard = none) (hd : o.dst = none) (ty : TypeId) (x y : Operand) (ho : o.op = .store ty x y)
    (g : Nat) (cells : Array Value) (hx : a.eval x = .pointer (some ⟨g, 0, none⟩)) (hy : a.eval y = .agg cells)
    (t : TypeId) (old : Array Value) (hg : w.heap[g]? = some (.cells old t (0, 0))) (hi2 : (P.info? ty).map (·.size) = some cells.size)
    (hold : old.size = cells.size) (h1 : cells.all (·.oneCell') = true) (h : K a (w.setRow g cells)) : wpOp P ops Q i K a w := by
  unfold wpOp
  simp only [hi, Region.wanted, hgd, if_true]
  refine .inl (wp_store_row ty x y ho g cells hx hy t old hg hi2 hold h1 ?_)
  rw [hd]
  exact h
/-- Two rows are stored last, in whatever order, and nothing more is to come. -/
theorem wpAnyH_rows2 {i j : Nat} {oi oj : Oper} {fuel : Nat} {listed : Array Bool} {a : Act} {w : World}
    (hr : Region.ready md ops listed = [i, j]) (hri : Region.ready md ops (listed.setIfInBounds i true) = [j]) (hrj : Region.ready md ops (listed.setIfInBounds j true) = [i])
    (hri2 : Region.ready md ops ((listed.setIfInBounds i true).setIfInBounds j true) = []) (hrj2 : Region.ready md ops ((listed.setIfInBounds j true).setIfInBounds i true) = [])
    (hi : ops[i]? = some oi) (hgi : oi.guard = none) (hdi : oi.dst = none) (tyi : TypeId) (xi yi : Operand) (hoi : oi.op = .store tyi xi yi)
    (hj : ops[j]? = some oj) (hgj : oj.guard = none) (hdj : oj.dst = none) (tyj : TypeId) (xj yj : Operand) (hoj : oj.op = .store tyj xj yj)
    (g : Nat) (ci : Array Value) (hxi : a.eval xi = .pointer (some ⟨g, 0, none⟩)) (hyi : a.eval yi = .agg ci)
    (h : Nat) (cj : Array Value) (hxj : a.eval xj = .pointer (some ⟨h, 0, none⟩)) (hyj : a.eval yj = .agg cj)
    (ti : TypeId) (oldi : Array Value) (hgw : w.heap[g]? = some (.cells oldi ti (0, 0))) (hsi : (P.info? tyi).map (·.size) = some ci.size) (hli : oldi.size = ci.size) (h1i : ci.all (·.oneCell') = true)
    (tj : TypeId) (oldj : Array Value) (hhw : w.heap[h]? = some (.cells oldj tj (0, 0))) (hsj : (P.info? tyj).map (·.size) = some cj.size) (hlj : oldj.size = cj.size) (h1j : cj.all (·.oneCell') = true)
    (hne : g ≠ h) (hS : ∀ W cs k, k = g ∨ k = h → S W → S (W.setRow k cs)) (hSw : S w)
    (hQ : Q .normal a ((w.setRow g ci).setRow h cj)) : wpAnyH P md ops Q S (fuel + 2) listed a w := by
  refine wpAnyH_all hr (by simp) ?_
  intro k hk
  rcases List.mem_cons.1 hk with rfl | hk
  · refine wpOp_store_row hi hgi hdi tyi xi yi hoi g ci hxi hyi ti oldi hgw hsi hli h1i ⟨hS _ _ _ (.inl rfl) hSw, wpAnyH_all hri (by simp) ?_⟩
    intro k hk
    obtain rfl := List.mem_singleton.1 hk
    exact wpOp_store_row hj hgj hdj tyj xj yj hoj h cj hxj hyj tj oldj ((setRow_other _ _ _ _ hne.symm).trans hhw) hsj hlj h1j ⟨hS _ _ _ (.inr rfl) (hS _ _ _ (.inl rfl) hSw), wpAnyH_done hri2 hQ _⟩
  · obtain rfl := List.mem_singleton.1 hk
    refine wpOp_store_row hj hgj hdj tyj xj yj hoj h cj hxj hyj tj oldj hhw hsj hlj h1j ⟨hS _ _ _ (.inr rfl) hSw, wpAnyH_all hrj (by simp) ?_⟩
    intro k hk
    obtain rfl := List.mem_singleton.1 hk
    refine wpOp_store_row hi hgi hdi tyi xi yi hoi g ci hxi hyi ti oldi ((setRow_other _ _ _ _ hne).trans hgw) hsi hli h1i ⟨hS _ _ _ (.inl rfl) (hS _ _ _ (.inr rfl) hSw), wpAnyH_done hrj2 ?_ _⟩
    rw [setRow_comm w h g cj ci hne.symm]
    exact hQ
/-- One row is stored last. -/
theorem wpAnyH_row1 {i : Nat} {oi : Oper} {fuel : Nat} {listed : Array Bool} {a : Act} {w : World}
    (hr : Region.ready md ops listed = [i]) (hri : Region.ready md ops (listed.setIfInBounds i true) = [])
    (hi : ops[i]? = some oi) (hgi : oi.guard = none) (hdi : oi.dst = none) (tyi : TypeId) (xi yi : Operand) (hoi : oi.op = .store tyi xi yi)
    (g : Nat) (ci : Array Value) (hxi : a.eval xi = .pointer (some ⟨g, 0, none⟩)) (hyi : a.eval yi = .agg ci)
    (ti : TypeId) (oldi : Array Value) (hgw : w.heap[g]? = some (.cells oldi ti (0, 0))) (hsi : (P.info? tyi).map (·.size) = some ci.size) (hli : oldi.size = ci.size) (h1i : ci.all (·.oneCell') = true)
    (hS : S (w.setRow g ci)) (hQ : Q .normal a (w.setRow g ci)) : wpAnyH P md ops Q S (fuel + 1) listed a w := by
  refine wpAnyH_all hr (by simp) ?_
  intro k hk
  obtain rfl := List.mem_singleton.1 hk
  exact wpOp_store_row hi hgi hdi tyi xi yi hoi g ci hxi hyi ti oldi hgw hsi hli h1i ⟨hS, wpAnyH_done hri hQ _⟩
/-- An operation that yields its value in every world of the class is taken first; its slot is told. -/
theorem wpAnyH_takeD {i : Nat} {oi : Oper} {v : Value} (d : Option Tmp) {fuel : Nat} {listed : Array Bool} {a : Act} {w : World} (hi : ops[i]? = some oi) (hd : oi.dst = d) (hgd : oi.guard = none)
    (hs : Region.noSelect ops = true) (hf : Region.free md ops listed i = true) (hr : (Region.ready md ops listed).contains i = true)
    (hQ : ∀ c a w, Q (.panic c) (a.put oi.dst v) w → Q (.panic c) a w) (hy : ∀ w, S w → (execOp a.eval oi).run P w = .ok (.value v) w) (hS : S w)
    (h : wpAnyH P md ops Q S fuel (listed.setIfInBounds i true) (a.put d v) w) : wpAnyH P md ops Q S (fuel + 1) listed a w :=
  wpAnyH_take hi hs hf hr hQ (.inl ⟨by simp [Region.wanted, hgd], hy⟩) hS (by rw [hd]; exact h)
/-- One row is stored, and more is to come. -/
theorem wpAnyH_store {i : Nat} {oi : Oper} {fuel : Nat} {listed : Array Bool} {a : Act} {w : World}
    (hr : Region.ready md ops listed = [i]) (hi : ops[i]? = some oi) (hgi : oi.guard = none) (hdi : oi.dst = none) (tyi : TypeId) (xi yi : Operand) (hoi : oi.op = .store tyi xi yi)
    (g : Nat) (ci : Array Value) (hxi : a.eval xi = .pointer (some ⟨g, 0, none⟩)) (hyi : a.eval yi = .agg ci)
    (ti : TypeId) (oldi : Array Value) (hgw : w.heap[g]? = some (.cells oldi ti (0, 0))) (hsi : (P.info? tyi).map (·.size) = some ci.size) (hli : oldi.size = ci.size) (h1i : ci.all (·.oneCell') = true)
    (hS : S (w.setRow g ci)) (hQ : S (w.setRow g ci) → wpAnyH P md ops Q S fuel (listed.setIfInBounds i true) a (w.setRow g ci)) : wpAnyH P md ops Q S (fuel + 1) listed a w := by
  refine wpAnyH_all hr (by simp) ?_
  intro k hk
  obtain rfl := List.mem_singleton.1 hk
  exact wpOp_store_row hi hgi hdi tyi xi yi hoi g ci hxi hyi ti oldi hgw hsi hli h1i ⟨hS, hQ hS⟩
end
end Go.Proofs.Yteceinojmdgmeaa

