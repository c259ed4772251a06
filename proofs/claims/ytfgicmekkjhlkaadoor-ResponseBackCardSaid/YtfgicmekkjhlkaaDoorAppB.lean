/- append of bytes, whatever the source (nil too); a byte stored into what a call owns. -/
import Derived.Test.YtfgicmekkjhlkaaDoorRspB
import Derived.Maps.AppendAt
import Derived.Laws.OwnMore
namespace Go.Proofs.YtfgicmekkjhlkaaDoor
open Go.RowKit
set_option linter.unusedVariables false
set_option linter.unusedSimpArgs false

theorem wpList_appB {ops : Array Oper} {rest : List Oper} {o : Oper} {a : Act} {Q : Exit → Act → World → Prop} {w : World} (hgd : o.guard = none) (s x : Operand)
    (ho : o.op = .call { callee := .builtin .append, args := #[s, x], argTypes := #[42, 42] })
    (base : Nat) (v : Value) (l : List Nat) (hs : a.eval s = v) (hown : OwnB w base v l) (ox : Option Addr) (m c : Nat) (news : List Nat) (hx : a.eval x = .slice ox m c) (hm : news.length = m) (hmc : m ≤ c)
    (hby : BytesN w ox news) (hl : l.length + m ≤ 140737488355328) (hbase : base ≤ w.heap.size)
    (h : ∀ v' w', OwnB w' base v' (l ++ news) → Below base w w' → wpList Tryd.prog ops Q rest (a.put o.dst v') w') :
    wpList Tryd.prog ops Q (o :: rest) a w := by
  subst hm
  obtain ⟨i0, hi0, hz0, hz1, hz2⟩ := info_parts u8_info
  cases ox with
  | none =>
    have h0 : news.length = 0 := by
      by_cases h0 : news.length = 0
      · exact h0
      · obtain ⟨_, e, _⟩ := hby 0 (by omega)
        cases e
    rw [h0] at hx
    have hn : news = [] := List.length_eq_zero_iff.1 h0
    subst hn
    refine wpList_plain hgd fun K hK => ?_
    have hr : (Builtin.append_ #[42, 42] o.type #[v, .slice none 0 c]).run Tryd.prog w = .ok v w := by
      rcases hown.2 with ⟨rfl, _⟩ | ⟨g, cap, cur, rfl, _, _, hnc, _⟩
      · simp [Builtin.append_, run_underlying Tryd.underlying42, sizeOf, typeInfo, hi0, Builtin.lenOf, Builtin.firstCells]
      · simp [Builtin.append_, run_underlying Tryd.underlying42, sizeOf, typeInfo, hi0, Builtin.lenOf, Builtin.firstCells, hnc, storeCells]
    unfold Oper.wp execOp
    simp only [ho, resolve, invoke, builtin, Sem.run_bind, Sem.run_pure, Result.andThen_ok, List.map_toArray, List.map_cons, List.map_nil, hs, hx, hr]
    exact hK _ _ (h v w (by rw [List.append_nil]; exact hown) (Below.refl _ _))
  | some ad =>
    refine wpList_append_own_at _ hgd s x 42 ho base 5 i0 _ 1 1 Tryd.underlying42 hi0 hz0 hz1 hz2 rfl (by omega) v _ _ hs hown ad _ c (news.map fun n : Nat => Value.int .u8 (n : Int)) hx (len_bytes news) ?_ (one_bytes news) (by unfold maxLen; omega) (by omega) hbase ?_
    · intro j u hu
      obtain ⟨y, hy, rfl⟩ := by simpa using hu
      have hj : j < news.length := (List.getElem?_eq_some_iff.1 hy).1
      obtain ⟨a1, ha, hc⟩ := hby j hj
      obtain rfl := Option.some.inj ha
      rw [hc, List.getD_eq_getElem?_getD, hy]
      rfl
    · intro v' w' hown' hg _ _
      exact h v' w' (ownB_app hown') ((Below.refl base w).grown hg hbase (fun q hq => (World.ownsRow.lt hown q hq).1))
/-- What a call owns, with its room. -/
theorem OwnB.form2 {w : World} {B : Nat} {v : Value} {l : List Nat} (h : OwnB w B v l) : ∃ oa cap, v = .slice oa l.length cap ∧ BytesN w oa l ∧ l.length ≤ cap ∧ cap ≤ maxLen ∧ (oa = none → cap = 0) ∧ ∀ a, oa = some a → a.off = 0 ∧ a.spot = none ∧ (∃ cur, w.heap[a.block]? = some (.cells cur 5 (0, 0))) ∧ B ≤ a.block ∧ a.block < w.heap.size := by
  obtain ⟨oa, cap, rfl, hby, hlt⟩ := ownB_bytes h
  rcases h.2 with ⟨hv, _⟩ | ⟨g, cap', cur, hv, hb, hr, h1, h2, h3, _⟩
  · simp only [Value.slice.injEq] at hv
    obtain ⟨rfl, h0, rfl⟩ := hv
    exact ⟨none, 0, rfl, hby, by omega, Nat.zero_le _, fun _ => rfl, fun a ha => by cases ha⟩
  · simp only [Value.slice.injEq] at hv
    obtain ⟨rfl, _, rfl⟩ := hv
    exact ⟨_, _, rfl, hby, h1, h2, (fun h => by cases h), fun a ha => by obtain rfl := Option.some.inj ha; exact ⟨rfl, rfl, ⟨cur, hr⟩, hlt _ rfl⟩⟩
/-- One byte stored. -/
theorem BytesN.store {W : World} {g : Nat} {l : List Nat} (h : BytesN W (some ⟨g, 0, none⟩) l) (i x : Nat) (hi : i < l.length) : BytesN (W.setCell ⟨g, i, none⟩ (.int .u8 (x : Int))) (some ⟨g, 0, none⟩) (l.set i x) := by
  intro j hj
  rw [List.length_set] at hj
  obtain ⟨a, ha, hc⟩ := h j hj
  obtain rfl := Option.some.inj ha
  refine ⟨_, rfl, ?_⟩
  have e : ∀ k, (⟨g, 0, none⟩ : Addr).add k = ⟨g, k, none⟩ := fun k => add_zero g k
  rw [e] at hc ⊢
  rw [List.getD_eq_getElem?_getD, List.getElem?_set]
  by_cases hij : i = j
  · subst hij
    rw [World.cell?_setCell_same _ _ _ hc, if_pos rfl, if_pos hi]
    rfl
  · rw [World.cell?_setCell_other _ _ _ _ (by simp [hij]), if_neg hij, hc]
    simp
#print axioms wpList_appB
end Go.Proofs.YtfgicmekkjhlkaaDoor
