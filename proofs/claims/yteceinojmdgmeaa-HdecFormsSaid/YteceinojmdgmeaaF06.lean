/- HdecForms: what stands while the two lists of bytes are written. -/
import Derived.Test.YteceinojmdgmeaaF04
import Derived.Test.YteceinojmdgmeaaF05
namespace Go.Proofs.Yteceinojmdgmeaa
open Go.RowKit
set_option linter.unusedVariables false
set_option linter.unusedSimpArgs false

section
variable {P : Program} {ops : Array Oper} {Q : Exit → Act → World → Prop} {md : Region.Mode} {S : World → Prop}
/-- The one operation that may come up. -/
theorem f0_step {c fuel : Nat} {listed : Array Bool} {a : Act} {w : World} (r : within (Region.ready md ops listed) [c] = true)
    (h : wpOp P ops Q c (fun a' w' => S w' ∧ wpAnyH P md ops Q S fuel (listed.setIfInBounds c true) a' w') a w) : wpAnyH P md ops Q S (fuel + 1) listed a w :=
  wpAnyH_within r fun i hi => by
    obtain rfl := List.mem_singleton.1 hi
    exact h
end
/-- An operation that yields a value, in the midst of a region. -/
theorem wpOp_val {P : Program} {ops : Array Oper} {Q : Exit → Act → World → Prop} {j : Nat} {o : Oper} {d : Tmp} {a : Act} {w : World} {K : Act → World → Prop} {v : Value} (hj : ops[j]? = some o) (hgd : o.guard = none) (hd : o.dst = some d)
    (hx : (execOp a.eval o).run P w = .ok (.value v) w) (h : K (a.put (some d) v) w) : wpOp P ops Q j K a w := by
  unfold wpOp
  simp only [hj, Region.wanted, hgd, if_true]
  refine .inl ?_
  unfold Oper.wp
  rw [hx]
  show K (a.put o.dst v) w
  rw [hd]
  exact h
/-- A slice of one byte, made in the midst of a region that draws. -/
theorem wpOp_slice1 {ops : Array Oper} {Q : Exit → Act → World → Prop} {j : Nat} {o : Oper} {d : Tmp} {a : Act} {w : World} {K : Act → World → Prop} (b : Int) (hj : ops[j]? = some o) (hgd : o.guard = none) (hd : o.dst = some d)
    (ho : o.op = .buildSlice 23 1 #[(0, .const (.int .u8 b))]) (h : K (a.put (some d) (.slice (some ⟨w.heap.size, 0, none⟩) 1 1)) (w.alloc (.cells #[.int .u8 b] 5))) : wpOp Try.prog ops Q j K a w := by
  obtain ⟨i0, hi0, hz0, hz1, hz2⟩ := info_parts u8_info
  unfold wpOp
  simp only [hj, Region.wanted, hgd, if_true]
  refine .inl ?_
  refine wp_buildSlice 23 5 1 _ ho #[.int .u8 b] i0 _ Try.underlying23 hi0 hz0 (by rw [hz1]; decide) (by rw [hz1]; decide) ?_ ?_
  · rw [hz1]
    have e : Array.range 1 = #[0] := by decide
    have e3 : (Value.int IntKind.u8 0).cells = #[.int .u8 0] := rfl
    have e4 : (Value.int IntKind.u8 b).cells = #[.int .u8 b] := rfl
    have e5 : a.eval (.const (.int .u8 b)) = .int .u8 b := rfl
    simp [e, e3, e4, e5, Instr.fill]
  · rw [hd]
    exact h
/-- What stands while one list of bytes grows: its bytes; what two calls have told; all else as it was. -/
structure R11 (wB wr : World) (row : Option Nat) (PV PN : List Nat) (v : Value) (l : List Nat) (fp fq : Option Value) (W : World) : Prop where
  b : Below wB.heap.size wB W
  gt : wB.heap.size < wr.heap.size
  k : wr.heap.size ≤ W.heap.size ∧ ∀ k, k < wr.heap.size → some k ≠ row → W.heap[k]? = wr.heap[k]?
  o : OwnB W (wB.heap.size + 1) v l
  ho : v.ownBlock = row ∨ ∃ g, v.ownBlock = some g ∧ wr.heap.size ≤ g
  p : ∀ u, fp = some u → OwnB W wr.heap.size u PV ∧ ∀ g, u.ownBlock = some g → v.ownBlock ≠ some g
  q : ∀ u, fq = some u → OwnB W wr.heap.size u PN ∧ ∀ g, u.ownBlock = some g → v.ownBlock ≠ some g
theorem R11.step {wB wr W W' : World} {row : Option Nat} {PV PN l : List Nat} {v : Value} {fp fq : Option Value} (h : R11 wB wr row PV PN v l fp fq W) (hb : Below W.heap.size W W') : R11 wB wr row PV PN v l fp fq W' :=
  ⟨bs_hd h.b hb, h.gt, ⟨Nat.le_trans h.k.1 hb.size, fun k h1 h2 => (hb.block k (Nat.lt_of_lt_of_le h1 h.k.1)).trans (h.k.2 k h1 h2)⟩, h.o.keep (fun g hg => hb.block g (h.o.own_lt g hg).2), h.ho,
    fun u hu => ⟨(h.p u hu).1.keep (fun g hg => hb.block g ((h.p u hu).1.own_lt g hg).2), (h.p u hu).2⟩, fun u hu => ⟨(h.q u hu).1.keep (fun g hg => hb.block g ((h.q u hu).1.own_lt g hg).2), (h.q u hu).2⟩⟩
theorem R11.drew {wB wr W : World} {row : Option Nat} {PV PN l : List Nat} {v : Value} {fp fq : Option Value} (h : R11 wB wr row PV PN v l fp fq W) : R11 wB wr row PV PN v l fp fq W.drew :=
  h.step ((Below.refl _ _).drew)
theorem R11.madeP {wB wr W W' : World} {row : Option Nat} {PV PN l : List Nat} {v u : Value} {fq : Option Value} (h : R11 wB wr row PV PN v l none fq W) (hb : Below W.heap.size W W') (ho : OwnB W' W.heap.size u PV) : R11 wB wr row PV PN v l (some u) fq W' := by
  have h2 := h.step hb
  refine ⟨h2.b, h2.gt, h2.k, h2.o, h2.ho, fun u' hu => ?_, h2.q⟩
  injection hu with hu
  subst hu
  exact ⟨ho.mono h.k.1, fun g hg e => by have := (h.o.own_lt g e).2; have := (ho.own_lt g hg).1; omega⟩
theorem R11.madeQ {wB wr W W' : World} {row : Option Nat} {PV PN l : List Nat} {v u : Value} {fp : Option Value} (h : R11 wB wr row PV PN v l fp none W) (hb : Below W.heap.size W W') (ho : OwnB W' W.heap.size u PN) : R11 wB wr row PV PN v l fp (some u) W' := by
  have h2 := h.step hb
  refine ⟨h2.b, h2.gt, h2.k, h2.o, h2.ho, h2.p, fun u' hu => ?_⟩
  injection hu with hu
  subst hu
  exact ⟨ho.mono h.k.1, fun g hg e => by have := (h.o.own_lt g e).2; have := (ho.own_lt g hg).1; omega⟩
/-- The list grows. -/
theorem R11.app {wB wr W W' : World} {row : Option Nat} {PV PN l l' : List Nat} {v v' : Value} {fp fq : Option Value} (h : R11 wB wr row PV PN v l fp fq W) (hg : W.grownBy W' v.ownBlock) (ho : OwnB W' (wB.heap.size + 1) v' l') (hat : v'.ownBlock = v.ownBlock ∨ v'.ownBlock = some W.heap.size) :
    R11 wB wr row PV PN v' l' fp fq W' := by
  have hbs := h.b.size
  refine ⟨h.b.grown hg hbs (fun k hk => by have := (h.o.own_lt k hk).1; omega), h.gt, ⟨Nat.le_trans h.k.1 hg.size, fun k h1 h2 => ?_⟩, ho, ?_, fun u hu => ?_, fun u hu => ?_⟩
  · refine (hg.block k (Nat.lt_of_lt_of_le h1 h.k.1) (fun e => ?_)).trans (h.k.2 k h1 h2)
    rcases h.ho with e2 | ⟨g, e2, h3⟩
    · exact h2 (e.trans e2)
    · rw [e2] at e
      injection e with e
      omega
  · rcases hat with e | e
    · rw [e]; exact h.ho
    · exact .inr ⟨_, e, h.k.1⟩
  · obtain ⟨h1, h2⟩ := h.p u hu
    refine ⟨h1.keep (fun g hg2 => hg.block g (h1.own_lt g hg2).2 (fun e => h2 g hg2 e.symm)), fun g hg2 e => ?_⟩
    rcases hat with e2 | e2
    · exact h2 g hg2 (e2 ▸ e)
    · rw [e2] at e
      injection e with e
      have := (h1.own_lt g hg2).2
      omega
  · obtain ⟨h1, h2⟩ := h.q u hu
    refine ⟨h1.keep (fun g hg2 => hg.block g (h1.own_lt g hg2).2 (fun e => h2 g hg2 e.symm)), fun g hg2 e => ?_⟩
    rcases hat with e2 | e2
    · exact h2 g hg2 (e2 ▸ e)
    · rw [e2] at e
      injection e with e
      have := (h1.own_lt g hg2).2
      omega
theorem R11.init {wB wr : World} {PV PN l : List Nat} {v : Value} (h : OwnB wr (wB.heap.size + 1) v l) (hb : Below wB.heap.size wB wr) (hgt : wB.heap.size < wr.heap.size) : R11 wB wr v.ownBlock PV PN v l none none wr :=
  ⟨hb, hgt, ⟨Nat.le_refl _, fun _ _ _ => rfl⟩, h, .inl rfl, (fun u hu => by cases hu), (fun u hu => by cases hu)⟩
theorem bytes_one (w : World) (b : Nat) : BytesN (w.alloc (.cells #[.int .u8 (b : Int)] 5)) (some ⟨w.heap.size, 0, none⟩) [b] := fun i hi => by
  have hi0 : i = 0 := by simpa using hi
  subst hi0
  refine ⟨_, rfl, ?_⟩
  rw [addr_add0, cell_of_row _ _ _ _ _ _ (heap_alloc_new w _)]
  rfl
/-- All that holds at a round's head: both lists of bytes, and the table. -/
structure FRel (wB : World) (va vb : Value) (PA PB : List Nat) (ot : Option Addr) (tn tc : Nat) (T : List Fld) (W : World) : Prop where
  tr : W.heap[wB.heap.size]? = some (.cells #[.int .i64 4096, .slice ot tn tc] 28 (0, 0))
  oa : OwnB W (wB.heap.size + 1) va PA
  ob : OwnB W (wB.heap.size + 1) vb PB
  ft : FieldsN W ot T
  len : T.length = tn ∧ tn ≤ tc
  sep : ∀ g, va.ownBlock = some g → vb.ownBlock ≠ some g
  sl : ∀ a, ot = some a → T ≠ [] → va.ownBlock ≠ some a.block ∧ vb.ownBlock ≠ some a.block
  below : Below wB.heap.size wB W
theorem FRel.gt {wB W : World} {va vb : Value} {PA PB : List Nat} {ot : Option Addr} {tn tc : Nat} {T : List Fld} (h : FRel wB va vb PA PB ot tn tc T W) : wB.heap.size < W.heap.size := (Array.getElem?_eq_some_iff.1 h.tr).1
theorem FRel.step {wB W W' : World} {va vb : Value} {PA PB : List Nat} {ot : Option Addr} {tn tc : Nat} {T : List Fld} (h : FRel wB va vb PA PB ot tn tc T W) (hb : Below W.heap.size W W') : FRel wB va vb PA PB ot tn tc T W' :=
  ⟨(hb.block _ h.gt).trans h.tr, h.oa.keep (fun g hg => hb.block g (h.oa.own_lt g hg).2), h.ob.keep (fun g hg => hb.block g (h.ob.own_lt g hg).2), h.ft.below hb, h.len, h.sep, h.sl, bs_hd h.below hb⟩
theorem fieldsN_block {W W' : World} {oa : Option Addr} {T : List Fld} (h : FieldsN W oa T) (hk : ∀ a, oa = some a → T ≠ [] → W'.heap[a.block]? = W.heap[a.block]?) : FieldsN W' oa T := fun i f hf => by
  obtain ⟨b, o, e, h0, h1, h2⟩ := h i f hf
  have hb : W'.heap[b]? = W.heap[b]? := hk _ e (fun e2 => by rw [e2] at hf; cases hf)
  exact ⟨b, o, e, (cell_eq hb).trans h0, (cell_eq hb).trans h1, (cell_eq hb).trans h2⟩
theorem fields_lt2 {W : World} {oa : Option Addr} {L : List Fld} (h : FieldsN W oa L) (a : Addr) (ha : oa = some a) (hne : L ≠ []) : a.block < W.heap.size := by
  cases L with
  | nil => exact absurd rfl hne
  | cons f t =>
    obtain ⟨b, o, e, c, _⟩ := h 0 f rfl
    rw [ha] at e
    injection e with e
    subst e
    exact World.block_lt_of_cell? _ _ c
/-- The first list has grown. -/
theorem FRel.grownA {wB wr W : World} {va vb v : Value} {PA PB PV PN l : List Nat} {ot : Option Addr} {tn tc : Nat} {T : List Fld} {fp fq : Option Value} (h : FRel wB va vb PA PB ot tn tc T wr) (hr : R11 wB wr va.ownBlock PV PN v l fp fq W) : FRel wB v vb l PB ot tn tc T W := by
  have hk := hr.k.2
  refine ⟨(hk _ h.gt (fun e => by have := (h.oa.own_lt _ e.symm).1; omega)).trans h.tr, hr.o, h.ob.keep (fun g hg => hk g (h.ob.own_lt g hg).2 (fun e => h.sep g e.symm hg)), fieldsN_block h.ft (fun a ha hne => hk _ (fields_lt2 h.ft a ha hne) (fun e => (h.sl a ha hne).1 e.symm)), h.len, fun g hg e => ?_, fun a ha hne => ⟨fun e => ?_, (h.sl a ha hne).2⟩, hr.b⟩
  · rcases hr.ho with e2 | ⟨g2, e2, h3⟩
    · exact h.sep g (e2 ▸ hg) e
    · rw [e2] at hg
      injection hg with hg
      have := (h.ob.own_lt g e).2
      omega
  · rcases hr.ho with e2 | ⟨g2, e2, h3⟩
    · exact (h.sl a ha hne).1 (e2 ▸ e)
    · rw [e2] at e
      injection e with e
      have := fields_lt2 h.ft a ha hne
      omega
/-- The second list has grown. -/
theorem FRel.grownB {wB W W' : World} {va vb v : Value} {PA PB l : List Nat} {ot : Option Addr} {tn tc : Nat} {T : List Fld} (h : FRel wB va vb PA PB ot tn tc T W) (hg : W.grownBy W' vb.ownBlock) (ho : OwnB W' (wB.heap.size + 1) v l) (hat : v.ownBlock = vb.ownBlock ∨ v.ownBlock = some W.heap.size) : FRel wB va v PA l ot tn tc T W' := by
  have hgt := h.gt
  refine ⟨(hg.block _ h.gt (fun e => by have := (h.ob.own_lt _ e.symm).1; omega)).trans h.tr, h.oa.keep (fun g hg2 => hg.block g (h.oa.own_lt g hg2).2 (fun e => h.sep g hg2 e.symm)), ho, fieldsN_block h.ft (fun a ha hne => hg.block _ (fields_lt2 h.ft a ha hne) (fun e => (h.sl a ha hne).2 e.symm)), h.len, fun g hg2 e => ?_, fun a ha hne => ⟨(h.sl a ha hne).1, fun e => ?_⟩, h.below.grown hg h.below.size (fun k hk => by have := (h.ob.own_lt k hk).1; omega)⟩
  · rcases hat with e2 | e2
    · exact h.sep g hg2 (e2 ▸ e)
    · rw [e2] at e
      injection e with e
      have := (h.oa.own_lt g hg2).2
      omega
  · rcases hat with e2 | e2
    · exact (h.sl a ha hne).2 (e2 ▸ e)
    · rw [e2] at e
      injection e with e
      have := fields_lt2 h.ft a ha hne
      omega
/-- The table has turned. -/
theorem FRel.turn {wB W W' : World} {va vb : Value} {PA PB : List Nat} {ot ot2 : Option Addr} {tn tc tn2 tc2 : Nat} {T T2 : List Fld} (h : FRel wB va vb PA PB ot tn tc T W) (hb : Below W.heap.size W W') (hf : FieldsN W' ot2 T2) (hl : T2.length = tn2 ∧ tn2 ≤ tc2) (hpos : ∀ a, ot2 = some a → W.heap.size ≤ a.block) :
    FRel wB va vb PA PB ot2 tn2 tc2 T2 (W'.setRow wB.heap.size #[.int .i64 4096, .slice ot2 tn2 tc2]) := by
  have h2 := h.step hb
  have hgt := h.gt
  refine ⟨setRow_heap _ _ _ _ _ _ h2.tr, h2.oa.keep (fun g hg => setRow_other _ _ _ _ (by have := (h2.oa.own_lt g hg).1; omega)), h2.ob.keep (fun g hg => setRow_other _ _ _ _ (by have := (h2.ob.own_lt g hg).1; omega)), hf.setRow (fun hne a ha => by have := hpos a ha; omega) _, hl, h2.sep, fun a ha hne => ⟨fun e => ?_, fun e => ?_⟩, below_row h2.below (Nat.le_refl _) _⟩
  · have := (h.oa.own_lt _ e).2; have := hpos a ha; omega
  · have := (h.ob.own_lt _ e).2; have := hpos a ha; omega
theorem FRel.new (wB : World) : FRel wB (.slice none 0 0) (.slice none 0 0) [] [] none 0 0 [] (wB.alloc (.cells #[.int .i64 4096, .slice none 0 0] 28)) :=
  ⟨heap_alloc_new _ _, World.ownsRow_nil _ _ _ _, World.ownsRow_nil _ _ _ _, FieldsN.nil _ _, ⟨rfl, Nat.le_refl _⟩, (fun g hg => by cases hg), (fun a ha => by cases ha), below_new _⟩
end Go.Proofs.Yteceinojmdgmeaa

