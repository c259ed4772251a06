/- Append of bytes, whatever the source, with the result's own block told. -/
import Derived.Test.YteceinojmdgmeaaC36
import Derived.Test.YteceinojmdgmeaaF00
import Derived.Maps.AppendAt
import Derived.Great.BuildSlice
namespace Go.Proofs.Yteceinojmdgmeaa
open Go.RowKit
set_option linter.unusedVariables false
set_option linter.unusedSimpArgs false

theorem run_appB (w : World) (ty : TypeId) (base : Nat) (v : Value) (l : List Nat) (hown : OwnB w base v l) (ox : Option Addr) (m c : Nat) (news : List Nat) (hm : news.length = m) (hby : BytesN w ox news) (hl : l.length + m ≤ 140737488355328) (hbase : base ≤ w.heap.size) :
    ∃ v' w', (Builtin.append_ #[23, 23] ty #[v, .slice ox m c]).run Try.prog w = .ok v' w' ∧ OwnB w' base v' (l ++ news) ∧ w.grownBy w' v.ownBlock ∧ (v'.ownBlock = v.ownBlock ∨ v'.ownBlock = some w.heap.size) := by
  subst hm
  obtain ⟨i0, hi0, hz0, hz1, hz2⟩ := info_parts u8_info
  cases ox with
  | none =>
    have h0 : news.length = 0 := by
      by_cases h0 : news.length = 0
      · exact h0
      · obtain ⟨_, e, _⟩ := hby 0 (by omega)
        cases e
    rw [h0]
    have hn : news = [] := List.length_eq_zero_iff.1 h0
    subst hn
    have hr : (Builtin.append_ #[23, 23] ty #[v, .slice none 0 c]).run Try.prog w = .ok v w := by
      rcases hown.2 with ⟨rfl, _⟩ | ⟨g, cap, cur, rfl, _, _, hnc, _⟩
      · simp [Builtin.append_, run_underlying Try.underlying23, sizeOf, typeInfo, hi0, Builtin.lenOf, Builtin.firstCells]
      · simp [Builtin.append_, run_underlying Try.underlying23, sizeOf, typeInfo, hi0, Builtin.lenOf, Builtin.firstCells, hnc, storeCells]
    exact ⟨v, w, hr, by rw [List.append_nil]; exact hown, ⟨rfl, rfl, rfl, Nat.le_refl _, fun _ _ _ => rfl⟩, .inl rfl⟩
  | some ad =>
    obtain ⟨v', w', hr, h2, h3, _, h5⟩ := run_append_own_at (P := Try.prog) w base 23 ty 5 i0 _ 1 1 Try.underlying23 hi0 hz0 hz1 hz2 rfl (by omega) v _ _ hown ad _ c (news.map fun n : Nat => Value.int .u8 (n : Int)) (len_bytes news) (by
      intro j u hu
      obtain ⟨y, hy, rfl⟩ := by simpa using hu
      have hj : j < news.length := (List.getElem?_eq_some_iff.1 hy).1
      obtain ⟨a1, ha, hc⟩ := hby j hj
      obtain rfl := Option.some.inj ha
      rw [hc, List.getD_eq_getElem?_getD, hy]
      rfl) (one_bytes news) (by unfold maxLen; omega) (by omega) hbase
    exact ⟨v', w', hr, ownB_app h2, h3, h5⟩
section
variable {ops : Array Oper} {Q : Exit → Act → World → Prop}
/-- In the midst of a region that draws. -/
theorem wpOp_appB {j : Nat} {o : Oper} {d : Tmp} {a : Act} {w : World} {K : Act → World → Prop} (hj : ops[j]? = some o) (hgd : o.guard = none) (hd : o.dst = some d) (s x : Operand)
    (ho : o.op = .call { callee := .builtin .append, args := #[s, x], argTypes := #[23, 23] })
    (base : Nat) (v : Value) (l : List Nat) (hs : a.eval s = v) (hown : OwnB w base v l) (ox : Option Addr) (m c : Nat) (news : List Nat) (hx : a.eval x = .slice ox m c) (hm : news.length = m) (hby : BytesN w ox news) (hl : l.length + m ≤ 140737488355328) (hbase : base ≤ w.heap.size)
    (h : ∀ v' w', OwnB w' base v' (l ++ news) → w.grownBy w' v.ownBlock → (v'.ownBlock = v.ownBlock ∨ v'.ownBlock = some w.heap.size) → K (a.put (some d) v') w') : wpOp Try.prog ops Q j K a w := by
  obtain ⟨v', w', hr, h2, h3, h4⟩ := run_appB w o.type base v l hown ox m c news hm hby hl hbase
  unfold wpOp
  simp only [hj, Region.wanted, hgd, if_true]
  refine .inl ?_
  unfold Oper.wp execOp
  simp only [ho, resolve, invoke, builtin, Sem.run_bind, Sem.run_pure, Result.andThen_ok, List.map_toArray, List.map_cons, List.map_nil, hs, hx, hr]
  show K (a.put o.dst v') w'
  rw [hd]
  exact h v' w' h2 h3 h4
/-- In a plain region. -/
theorem wpList_appB {rest : List Oper} {o : Oper} {a : Act} {w : World} (hgd : o.guard = none) (s x : Operand)
    (ho : o.op = .call { callee := .builtin .append, args := #[s, x], argTypes := #[23, 23] })
    (base : Nat) (v : Value) (l : List Nat) (hs : a.eval s = v) (hown : OwnB w base v l) (ox : Option Addr) (m c : Nat) (news : List Nat) (hx : a.eval x = .slice ox m c) (hm : news.length = m) (hby : BytesN w ox news) (hl : l.length + m ≤ 140737488355328) (hbase : base ≤ w.heap.size)
    (h : ∀ v' w', OwnB w' base v' (l ++ news) → w.grownBy w' v.ownBlock → (v'.ownBlock = v.ownBlock ∨ v'.ownBlock = some w.heap.size) → wpList Try.prog ops Q rest (a.put o.dst v') w') : wpList Try.prog ops Q (o :: rest) a w := by
  obtain ⟨v', w', hr, h2, h3, h4⟩ := run_appB w o.type base v l hown ox m c news hm hby hl hbase
  refine wpList_plain hgd fun K hK => ?_
  unfold Oper.wp execOp
  simp only [ho, resolve, invoke, builtin, Sem.run_bind, Sem.run_pure, Result.andThen_ok, List.map_toArray, List.map_cons, List.map_nil, hs, hx, hr]
  exact hK _ _ (h v' w' h2 h3 h4)
end
/-- What a call owns, with its room. -/
theorem OwnB.form3 {w : World} {B : Nat} {v : Value} {l : List Nat} (h : OwnB w B v l) : ∃ oa cap, v = .slice oa l.length cap ∧ BytesN w oa l ∧ l.length ≤ cap ∧ (∀ a, oa = some a → B ≤ a.block ∧ a.block < w.heap.size) ∧ v.ownBlock = oa.map (·.block) := by
  obtain ⟨oa, cap, rfl, hby, hlt⟩ := ownB_bytes h
  refine ⟨oa, cap, rfl, hby, ?_, fun a ha => ?_, ?_⟩
  · rcases h.2 with ⟨hv, h0⟩ | ⟨g, cap', cur, hv, hb, hr, h1, h2, h3, _⟩
    · omega
    · simp only [Value.slice.injEq] at hv
      obtain ⟨rfl, _, rfl⟩ := hv
      exact h1
  · rcases h.2 with ⟨hv, _⟩ | ⟨g, cap', cur, hv, hb, hr, h1, h2, h3, _⟩
    · simp only [Value.slice.injEq] at hv
      obtain ⟨rfl, _, _⟩ := hv
      cases ha
    · simp only [Value.slice.injEq] at hv
      obtain ⟨rfl, _, rfl⟩ := hv
      obtain rfl := Option.some.inj ha
      exact ⟨hb, (Array.getElem?_eq_some_iff.1 hr).1⟩
  · cases oa <;> rfl
/-- An empty slice that is made. -/
theorem ownB_made (w : World) (B : Nat) (hB : B ≤ w.heap.size) : OwnB (w.alloc (.cells #[] 5)) B (.slice (some ⟨w.heap.size, 0, none⟩) 0 0) [] :=
  ⟨rfl, .inr ⟨_, 0, #[], rfl, hB, heap_alloc_new w _, Nat.le_refl _, Nat.zero_le _, rfl, rfl⟩⟩
/-- An empty slice, made in the midst of a region that draws. -/
theorem wpOp_slice0 {ops : Array Oper} {Q : Exit → Act → World → Prop} {j : Nat} {o : Oper} {d : Tmp} {a : Act} {w : World} {K : Act → World → Prop} (hj : ops[j]? = some o) (hgd : o.guard = none) (hd : o.dst = some d)
    (ho : o.op = .buildSlice 23 0 #[]) (h : K (a.put (some d) (.slice (some ⟨w.heap.size, 0, none⟩) 0 0)) (w.alloc (.cells #[] 5))) : wpOp Try.prog ops Q j K a w := by
  obtain ⟨i0, hi0, hz0, hz1, hz2⟩ := info_parts u8_info
  have hr : (Instr.buildSlice 23 0 #[]).run Try.prog w = .ok (.slice (some ⟨w.heap.size, 0, none⟩) 0 0) (w.alloc (.cells #[] 5)) := by
    simp [Instr.buildSlice, run_underlying Try.underlying23, sizeOf, typeInfo, hi0, Instr.fill, newRow]
    rw [show Array.map (fun _ : Nat => (default : Value)) (Array.range 0) = #[] from by apply Array.ext <;> simp]
  unfold wpOp
  simp only [hj, Region.wanted, hgd, if_true]
  refine .inl ?_
  unfold Oper.wp execOp
  simp only [ho, Sem.run_bind, Sem.run_pure, Result.andThen_ok, List.map_toArray, List.map_nil, hr]
  show K (a.put o.dst _) _
  rw [hd]
  exact h
end Go.Proofs.Yteceinojmdgmeaa

