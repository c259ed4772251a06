/- HdecGreat: what stands while items' bytes are gathered in two parts. -/
import Derived.Test.YteceinojmdgmeaaC44
import Derived.Test.YteceinojmdgmeaaC45
import Derived.Test.YteceinojmdgmeaaC37
import Derived.Test.YteceinojmdgmeaaC38
namespace Go.Proofs.Yteceinojmdgmeaa
open Go.RowKit
set_option linter.unusedVariables false
set_option linter.unusedSimpArgs false

theorem OwnB.keep {w w' : World} {B : Nat} {v : Value} {l : List Nat} (h : OwnB w B v l) (hk : ∀ g, v.ownBlock = some g → w'.heap[g]? = w.heap[g]?) : OwnB w' B v l := by
  obtain ⟨h1, h2⟩ := h
  refine ⟨h1, ?_⟩
  rcases h2 with h2 | ⟨q, cap, cur, e, hq, hh, r⟩
  · exact .inl h2
  · exact .inr ⟨q, cap, cur, e, hq, (hk q (by rw [e]; rfl)).trans hh, r⟩
theorem OwnB.own_lt {w : World} {B : Nat} {v : Value} {l : List Nat} (h : OwnB w B v l) : ∀ g, v.ownBlock = some g → B ≤ g ∧ g < w.heap.size := fun g hg => World.ownsRow.lt h g hg
/-- The state, in a row of its own. -/
structure Gs (w : World) (mx cp : Int) (v : Value) (W : World) : Prop where
  st : SRow 40 W w.heap.size mx v cp
  below : Below w.heap.size w W
theorem Gs.step {w W W' : World} {mx cp : Int} {v : Value} (h : Gs w mx cp v W) (hb : Below W.heap.size W W') : Gs w mx cp v W' :=
  ⟨h.st.step hb, bs_hd h.below hb⟩
theorem Gs.new (w : World) (mx cp : Int) (v : Value) : Gs w mx cp v (w.alloc (.cells #[.int .i64 mx, v, .int .i64 cp] 40)) :=
  ⟨SRow.new _ _ _ _ _, below_new _⟩
theorem Gs.gt {w W : World} {mx cp : Int} {v : Value} (h : Gs w mx cp v W) : w.heap.size < W.heap.size := h.st.lt
/-- Both parts. -/
structure GRel (wB : World) (v0 v1 : Value) (p0 p1 : List Nat) (W : World) : Prop where
  row : W.heap[wB.heap.size]? = some (.cells #[v0, v1] 64 (0, 0))
  o0 : OwnB W (wB.heap.size + 1) v0 p0
  o1 : OwnB W (wB.heap.size + 1) v1 p1
  sep : ∀ g, v0.ownBlock = some g → v1.ownBlock ≠ some g
  below : Below wB.heap.size wB W
theorem GRel.gt {wB W : World} {v0 v1 : Value} {p0 p1 : List Nat} (h : GRel wB v0 v1 p0 p1 W) : wB.heap.size < W.heap.size := (Array.getElem?_eq_some_iff.1 h.row).1
theorem GRel.step {wB W W' : World} {v0 v1 : Value} {p0 p1 : List Nat} (h : GRel wB v0 v1 p0 p1 W) (hb : Below W.heap.size W W') : GRel wB v0 v1 p0 p1 W' :=
  ⟨(hb.block _ h.gt).trans h.row, h.o0.keep (fun g hg => hb.block g (h.o0.own_lt g hg).2), h.o1.keep (fun g hg => hb.block g (h.o1.own_lt g hg).2), h.sep, bs_hd h.below hb⟩
theorem GRel.c0 {wB W : World} {v0 v1 : Value} {p0 p1 : List Nat} (h : GRel wB v0 v1 p0 p1 W) : W.cell? ⟨wB.heap.size, 0, none⟩ = some v0 := cell_of_row _ _ _ _ _ _ h.row
theorem GRel.c1 {wB W : World} {v0 v1 : Value} {p0 p1 : List Nat} (h : GRel wB v0 v1 p0 p1 W) : W.cell? ⟨wB.heap.size, 1, none⟩ = some v1 := cell_of_row _ _ _ _ _ _ h.row
theorem GRel.z {wB W : World} {v0 v1 : Value} {p0 p1 : List Nat} (h : GRel wB v0 v1 p0 p1 W) (j : Nat) : W.frozen? ⟨wB.heap.size, j, none⟩ = false := frozen_of_row _ _ _ _ _ h.row
/-- What is owned, but for its bytes: the row that is appended to may turn. -/
theorem GRel.grownRow {wB W W' : World} {v0 v1 v : Value} {p0 p1 p : List Nat} (h : GRel wB v0 v1 p0 p1 W) (ho : OwnB W (wB.heap.size + 1) v p) (hg : W.grownBy W' v.ownBlock) : W'.heap[wB.heap.size]? = some (.cells #[v0, v1] 64 (0, 0)) ∧ Below wB.heap.size wB W' :=
  ⟨(hg.block _ h.gt (fun e => by have := (ho.own_lt _ e.symm).1; omega)).trans h.row, h.below.grown hg (Nat.le_of_lt h.gt) (fun k hk => by have := (ho.own_lt k hk).1; omega)⟩
theorem GRel.put0 {wB W W' : World} {v0 v1 v2 : Value} {p0 p1 p2 : List Nat} (h : GRel wB v0 v1 p0 p1 W) (hg : W.grownBy W' v0.ownBlock) (hown : OwnB W' (wB.heap.size + 1) v2 p2) (hat : v2.ownBlock = v0.ownBlock ∨ v2.ownBlock = some W.heap.size) :
    GRel wB v2 v1 p2 p1 (W'.setCell ⟨wB.heap.size, 0, none⟩ v2) := by
  obtain ⟨hr, hb⟩ := h.grownRow h.o0 hg
  rw [setCell_eq_setRow _ _ _ _ _ _ _ hr, show (#[v0, v1] : Array Value).setIfInBounds 0 v2 = #[v2, v1] from rfl]
  refine ⟨setRow_heap _ _ _ _ _ _ hr, hown.keep (fun g hg2 => setRow_other _ _ _ _ (by have := (hown.own_lt g hg2).1; omega)), h.o1.keep (fun g hg2 => (setRow_other _ _ _ _ (by have := (h.o1.own_lt g hg2).1; omega)).trans (hg.block g (h.o1.own_lt g hg2).2 (fun e => h.sep g e.symm hg2))), fun g hg2 e => ?_, below_row hb (Nat.le_refl _) _⟩
  rcases hat with hat | hat
  · exact h.sep g (hat ▸ hg2) e
  · have := (h.o1.own_lt g e).2
    rw [hat] at hg2
    injection hg2 with hg2
    omega
theorem GRel.put1 {wB W W' : World} {v0 v1 v2 : Value} {p0 p1 p2 : List Nat} (h : GRel wB v0 v1 p0 p1 W) (hg : W.grownBy W' v1.ownBlock) (hown : OwnB W' (wB.heap.size + 1) v2 p2) (hat : v2.ownBlock = v1.ownBlock ∨ v2.ownBlock = some W.heap.size) :
    GRel wB v0 v2 p0 p2 (W'.setCell ⟨wB.heap.size, 1, none⟩ v2) := by
  obtain ⟨hr, hb⟩ := h.grownRow h.o1 hg
  rw [setCell_eq_setRow _ _ _ _ _ _ _ hr, show (#[v0, v1] : Array Value).setIfInBounds 1 v2 = #[v0, v2] from rfl]
  refine ⟨setRow_heap _ _ _ _ _ _ hr, h.o0.keep (fun g hg2 => (setRow_other _ _ _ _ (by have := (h.o0.own_lt g hg2).1; omega)).trans (hg.block g (h.o0.own_lt g hg2).2 (fun e => h.sep g hg2 e.symm))), hown.keep (fun g hg2 => setRow_other _ _ _ _ (by have := (hown.own_lt g hg2).1; omega)), fun g hg2 e => ?_, below_row hb (Nat.le_refl _) _⟩
  rcases hat with hat | hat
  · exact h.sep g hg2 (hat ▸ e)
  · have := (h.o0.own_lt g hg2).2
    rw [hat] at e
    injection e with e
    omega
theorem GRel.new (wB : World) : GRel wB (.slice none 0 0) (.slice none 0 0) [] [] (wB.alloc (.cells #[.slice none 0 0, .slice none 0 0] 64)) :=
  ⟨heap_alloc_new _ _, World.ownsRow_nil _ _ _ _, World.ownsRow_nil _ _ _ _, (fun g hg => by cases hg), below_new _⟩
/-- One item more. -/
theorem parts_lo {its : List Itm} {k c : Nat} {x : Itm} (hx : its[k]? = some x) (h : k < c) : (its.take (k + 1)).take c = (its.take k).take c ++ [x] ∧ (its.take (k + 1)).drop c = (its.take k).drop c := by
  have e : its.take (k + 1) = its.take k ++ [x] := by rw [List.take_add_one, hx]; rfl
  have hl : (its.take (k + 1)).length ≤ c := by rw [List.length_take]; omega
  have hl2 : (its.take k).length ≤ c := by rw [List.length_take]; omega
  rw [List.take_of_length_le hl, List.take_of_length_le hl2, List.drop_of_length_le hl, List.drop_of_length_le hl2]
  exact ⟨e, rfl⟩
theorem parts_hi {its : List Itm} {k c : Nat} {x : Itm} (hx : its[k]? = some x) (h : c ≤ k) : (its.take (k + 1)).take c = (its.take k).take c ∧ (its.take (k + 1)).drop c = (its.take k).drop c ++ [x] := by
  have e : its.take (k + 1) = its.take k ++ [x] := by rw [List.take_add_one, hx]; rfl
  have hk : k < its.length := (List.getElem?_eq_some_iff.1 hx).1
  have hl : c ≤ (its.take k).length := by rw [List.length_take]; omega
  rw [e, List.take_append_of_le_length hl, List.drop_append_of_le_length hl]
  exact ⟨rfl, rfl⟩
theorem catI_one (x : Itm) : catI [x] = itemN x := by simp [catI]
theorem cat_lo {its : List Itm} {k c : Nat} {x : Itm} (hx : its[k]? = some x) (h : k < c) : catI ((its.take (k + 1)).take c) = catI ((its.take k).take c) ++ itemN x ∧ catI ((its.take (k + 1)).drop c) = catI ((its.take k).drop c) := by
  obtain ⟨e0, e1⟩ := parts_lo hx h
  rw [e0, e1, catI_append, catI_one]
  exact ⟨rfl, rfl⟩
theorem cat_hi {its : List Itm} {k c : Nat} {x : Itm} (hx : its[k]? = some x) (h : c ≤ k) : catI ((its.take (k + 1)).take c) = catI ((its.take k).take c) ∧ catI ((its.take (k + 1)).drop c) = catI ((its.take k).drop c) ++ itemN x := by
  obtain ⟨e0, e1⟩ := parts_hi hx h
  rw [e0, e1, catI_append, catI_one]
  exact ⟨rfl, rfl⟩
/-- What is known of the items so far. -/
def OkN (l : List Itm) : Prop := ∀ x ∈ l, OkI x ∧ x.kind ≠ 4
theorem cat_len {its : List Itm} (k c : Nat) (h : OkN (its.take k)) (hk : k ≤ 20) : (catI ((its.take k).take c)).length + (catI ((its.take k).drop c)).length ≤ 4160 := by
  rw [← List.length_append, ← catI_append, List.take_append_drop]
  have h1 := catI_big (its.take k) (fun x hx => (h x hx).1)
  have h2 : (its.take k).length ≤ 20 := by rw [List.length_take]; omega
  omega
theorem OkN.more {its : List Itm} {k : Nat} {x : Itm} (h : OkN (its.take k)) (hx : its[k]? = some x) (h1 : OkI x) (h2 : x.kind ≠ 4) : OkN (its.take (k + 1)) := fun y hy => by
  rw [show its.take (k + 1) = its.take k ++ [x] from by rw [List.take_add_one, hx]; rfl] at hy
  rcases List.mem_append.1 hy with hy | hy
  · exact h y hy
  · obtain rfl := List.mem_singleton.1 hy
    exact ⟨h1, h2⟩
/-- Where a state's row was made, no fields lie. -/
theorem sep_state {W : World} {oa : Option Addr} {R : List Fld} {g : Nat} {ty : TypeId} {a b c : Value} (h : FieldsN W oa R) (hz : W.heap[g]? = some (.cells #[a, b, c] ty (0, 0))) (ha : ∀ s, a ≠ .string s) (hb : ∀ s, b ≠ .string s) (hc : ∀ s, c ≠ .string s) :
    R ≠ [] → ∀ q, oa = some q → q.block ≠ g := fun hne q hq e => by
  cases R with
  | nil => exact absurd rfl hne
  | cons f t =>
    obtain ⟨b0, o0, e0, h0, _⟩ := h 0 f rfl
    rw [hq] at e0
    injection e0 with e0
    subst e0
    subst e
    rw [cell_of_row _ _ _ _ _ _ hz] at h0
    rcases o0 with _ | _ | _ | o0
    · exact ha _ (Option.some.inj h0)
    · exact hb _ (Option.some.inj h0)
    · exact hc _ (Option.some.inj h0)
    · simp at h0
/-- A state's variable is made. -/
theorem makes_hst {ops : Array Oper} {p : Nat} {d : Tmp} {o : Oper} (h : ops[p]? = some o) (hg : o.guard = none) (hd : o.dst = some d) (ho : o.op = .alloc 45) : Makes Try.prog ops p d (.cells #[.int .i64 0, .slice none 0 0, .int .i64 0] 45) :=
  ⟨⟨o, h, hg, hd, fun ρ w => by
    obtain ⟨dst, op, type, pos, after, guard⟩ := o
    simp only at ho
    subst ho
    go_simp⟩⟩
theorem exec_move {P : Program} {o : Oper} {a : Act} {x : Operand} {v : Value} (ho : o.op = .move x) (hx : a.eval x = v) (W : World) : (execOp a.eval o).run P W = .ok (.value v) W := by
  obtain ⟨dst, op, type, pos, after, guard⟩ := o
  simp only at ho
  subst ho
  subst hx
  rfl
theorem exec_extract {P : Program} {o : Oper} {a : Act} {x : Operand} {i : Nat} {vs : Array Value} {v : Value} (ho : o.op = .extract x i) (hx : a.eval x = .tuple vs) (hv : vs[i]? = some v) (W : World) : (execOp a.eval o).run P W = .ok (.value v) W := by
  obtain ⟨dst, op, type, pos, after, guard⟩ := o
  simp only at ho
  subst ho
  unfold execOp
  simp only [hx, Instr.extract, hv]
  rfl
theorem exec_call {P : Program} {o : Oper} {a : Act} {f : FuncId} {xs : Array Operand} {ts : Array TypeId} {vs : Array Value} (ho : o.op = .call { callee := .value (.func f), args := xs, argTypes := ts }) (hx : xs.toList.map a.eval = vs.toList) (W : World) (hc : (callFunc f vs).run P W = .ok (.enter f vs) W) : (execOp a.eval o).run P W = .ok (.enter f vs) W := by
  obtain ⟨dst, op, type, pos, after, guard⟩ := o
  simp only at ho
  subst ho
  obtain rfl : xs.map a.eval = vs := Array.ext' (by rw [Array.toList_map]; exact hx)
  go_simp
  
/-- The row of a variable that may be made. -/
def ZV (F : Nat) (z : Obj) (f : Option Value) (W : World) : Prop := ∀ v, f = some v → ∃ g, v = .pointer (some ⟨g, 0, none⟩) ∧ F ≤ g ∧ W.heap[g]? = some z
theorem ZV.noth (F : Nat) (z : Obj) (W : World) : ZV F z none W := fun v h => by cases h
theorem ZV.step {F : Nat} {z : Obj} {f : Option Value} {W W' : World} (h : ZV F z f W) (hb : Below W.heap.size W W') : ZV F z f W' := fun v hv => by
  obtain ⟨g, e, h1, h2⟩ := h v hv
  exact ⟨g, e, h1, (hb.block g (Array.getElem?_eq_some_iff.1 h2).1).trans h2⟩
theorem ZV.made {F : Nat} (z : Obj) {W : World} (h : F ≤ W.heap.size) : ZV F z (some (.pointer (some ⟨W.heap.size, 0, none⟩))) (W.alloc z) := fun v hv => by
  injection hv with hv
  exact ⟨_, hv.symm, h, heap_alloc_new _ _⟩
/-- It does not lie where a slice is owned. -/
def SV (f : Option Value) (v : Value) : Prop := ∀ g, f = some (.pointer (some ⟨g, 0, none⟩)) → v.ownBlock ≠ some g
theorem SV.noth (v : Value) : SV none v := fun g h => by cases h
theorem SV.made {W : World} {B : Nat} {v : Value} {l : List Nat} (h : OwnB W B v l) : SV (some (.pointer (some ⟨W.heap.size, 0, none⟩))) v := fun g hg e => by
  injection hg with hg
  injection hg with hg
  injection hg with hg
  injection hg with hg _ _
  have := (h.own_lt g e).2
  omega
theorem ZV.grown {F : Nat} {z : Obj} {f : Option Value} {W W' : World} {v : Value} (h : ZV F z f W) (hs : SV f v) (hg : W.grownBy W' v.ownBlock) : ZV F z f W' := fun u hu => by
  obtain ⟨g, e, h1, h2⟩ := h u hu
  exact ⟨g, e, h1, (hg.block g (Array.getElem?_eq_some_iff.1 h2).1 (fun e2 => hs g (by rw [hu, e]) e2.symm)).trans h2⟩
theorem SV.fresh {F : Nat} {z : Obj} {f : Option Value} {W : World} {v : Value} (h : ZV F z f W) (hv : v.ownBlock = some W.heap.size) : SV f v := fun g hg e => by
  obtain ⟨g', e', _, h2⟩ := h _ hg
  injection e' with e'
  injection e' with e'
  injection e' with e' _ _
  subst e'
  rw [hv] at e
  injection e with e
  have := (Array.getElem?_eq_some_iff.1 h2).1
  omega
theorem SV.next {F : Nat} {z : Obj} {f : Option Value} {W : World} {v v' : Value} (hs : SV f v) (h : ZV F z f W) (hat : v'.ownBlock = v.ownBlock ∨ v'.ownBlock = some W.heap.size) : SV f v' := fun g hg e => by
  rcases hat with hat | hat
  · exact hs g hg (hat ▸ e)
  · obtain ⟨g', e', _, h2⟩ := h _ hg
    injection e' with e'
    injection e' with e'
    injection e' with e' _ _
    subst e'
    rw [hat] at e
    injection e with e
    have := (Array.getElem?_eq_some_iff.1 h2).1
    omega
section
variable {P : Program} {ops : Array Oper} {C : World → Prop} {Q : Act → Prop}
/-- The guard says no. -/
theorem q_noE (base : Nat) {a : Act} {o : Oper} {rest : List Oper} {d : Option Tmp} {g : Nat} {b c : Bool} (hg : o.guard = some (g, b)) (ht : (ops[g]?).bind (·.dst) = some (base + g)) (hb : a.tmps[base + g]? = some (.bool c)) (hbc : (c == b) = false) (hd : o.dst = d)
    (h : ∃ a', IsAct (a.put d undef) a' ∧ QRest P ops C Q rest a') : QRest P ops C Q (o :: rest) a := by
  obtain ⟨a', ha, h⟩ := h
  exact q_no hg ht hb hbc hd ha h
end
theorem sameL_self2 : ∀ L : List Fld, sameL L L = true
  | [] => rfl
  | f :: l => by unfold sameL; rw [sameL_self2 l]; simp [eqF]
theorem told_few {mx cp : Int} {L : List Fld} {bs : List Nat} (h : (hBlk mx cp L bs).2.2.2.1 = true) : sumF (hBlk mx cp L bs).2.2.1 ≤ 1024 := by
  unfold hBlk at h ⊢
  split at h
  · cases h
  · rename_i c1; rw [if_neg c1]
    split at h
    · cases h
    · rename_i c2; rw [if_neg c2]
      split at h
      · cases h
      · rename_i c3; rw [if_neg c3]
        split at h
        · cases h
        · rename_i c4; rw [if_neg c4]; dsimp only; omega
theorem few_light {L : List Fld} (h : sumF L ≤ 1024) : L.length ≤ 32 ∧ ∀ f ∈ L, lightF f = true := by
  have h1 := sumF_len L
  refine ⟨by omega, fun f hf => ?_⟩
  have h2 := sumF_mem hf
  have h3 : f.sz = f.name.size + f.value.size + 32 := rfl
  simp only [lightF, Bool.and_eq_true, decide_eq_true_eq]
  omega
/-- What a wrong block is compared by. -/
structure Vy (w : World) (mx cp : Int) (oa : Option Addr) (n cap : Nat) (L : List Fld) (g : Nat) (ox : Option Addr) (nx cx : Nat) (W : World) : Prop where
  s : Gs w mx cp (.slice oa n cap) W
  r : HRow W g mx (.slice ox nx cx) cp
  fl : FieldsN W oa L
  fx : FieldsN W ox L
theorem Vy.step {w W W' : World} {mx cp : Int} {oa ox : Option Addr} {n cap g nx cx : Nat} {L : List Fld} (h : Vy w mx cp oa n cap L g ox nx cx W) (hb : Below W.heap.size W W') : Vy w mx cp oa n cap L g ox nx cx W' :=
  ⟨h.s.step hb, h.r.step hb, h.fl.below hb, h.fx.below hb⟩
theorem Vy.drew {w W : World} {mx cp : Int} {oa ox : Option Addr} {n cap g nx cx : Nat} {L : List Fld} (h : Vy w mx cp oa n cap L g ox nx cx W) : Vy w mx cp oa n cap L g ox nx cx W.drew :=
  ⟨⟨h.s.st, h.s.below.drew⟩, h.r, h.fl, h.fx⟩
end Go.Proofs.Yteceinojmdgmeaa

