/- HnD · HnE: joined by a program, for a claim has at most 60 files. -/
import Derived.Test.YteceinojmdgmeaaC38
import Derived.Test.YteceinojmdgmeaaC39
import Derived.Test.YteceinojmdgmeaaC35
import Derived.Test.YteceinojmdgmeaaC40
import Derived.Test.YteceinojmdgmeaaC41
/- henc.Items: the items, in plain words; what stands while they are gathered. -/
namespace Go.Proofs.Yteceinojmdgmeaa
open Go.RowKit
set_option linter.unusedVariables false
set_option linter.unusedSimpArgs false

/-- The items of fields, one behind the other, and the table behind them. -/
def ERun (mx : Int) : List Fld → List Fld → List Fld → List Itm → Prop
  | T, [], T2, O => T2 = T ∧ O = []
  | T, f :: l, T2, O => ∃ p x O2, DFound T f.name f.value p x ∧ O = eItem p x mx f :: O2 ∧ ERun mx (if (eItem p x mx f).kind = 1 then addL mx T f else T) l T2 O2
theorem ERun.snoc {mx : Int} {f : Fld} {p : Nat} {x : Bool} : ∀ {l T T2 : List Fld} {O : List Itm}, ERun mx T l T2 O → DFound T2 f.name f.value p x →
    ERun mx T (l ++ [f]) (if (eItem p x mx f).kind = 1 then addL mx T2 f else T2) (O ++ [eItem p x mx f])
  | [], T, T2, O, h, hd => by
    obtain ⟨rfl, rfl⟩ := h
    exact ⟨p, x, [], hd, rfl, rfl, rfl⟩
  | g :: l, T, T2, O, h, hd => by
    obtain ⟨p', x', O2, h1, rfl, h2⟩ := h
    exact ⟨p', x', _, h1, rfl, h2.snoc hd⟩
/-- A size is told, if it is another one. -/
def rzO (mx most : Int) (O : List Itm) : List Itm := if most ≠ mx then O ++ [⟨4, most, ⟨#[]⟩, ⟨#[]⟩⟩] else O
def rzM (mx most : Int) (T : List Fld) : Int := if most ≠ mx then resM mx most T else mx
def rzL (mx most : Int) (T : List Fld) : List Fld := if most ≠ mx then resL mx most T else T
/-- The table's row, the items' row, the items. -/
structure ES (w0 : World) (mx : Int) (ot : Option Addr) (tn tc : Nat) (T : List Fld) (ov : Value) (O : List Itm) (W : World) : Prop where
  ob : W.heap[w0.heap.size]? = some (.cells #[ov] 84 (0, 0))
  tr : W.heap[w0.heap.size + 1]? = some (.cells #[.int .i64 mx, .slice ot tn tc] 28 (0, 0))
  oi : OwnI W (w0.heap.size + 2) ov O
  ft : FieldsN W ot T
  len : T.length = tn ∧ tn ≤ tc
  sep : ∀ a, ot = some a → T ≠ [] → a.block ≠ w0.heap.size ∧ a.block ≠ w0.heap.size + 1 ∧ ov.ownBlock ≠ some a.block
  below : Below w0.heap.size w0 W
theorem ES.gt {w0 W : World} {mx : Int} {ot : Option Addr} {tn tc : Nat} {T : List Fld} {ov : Value} {O : List Itm} (h : ES w0 mx ot tn tc T ov O W) : w0.heap.size + 1 < W.heap.size := (Array.getElem?_eq_some_iff.1 h.tr).1
theorem OwnI.own_lt {w : World} {B : Nat} {v : Value} {l : List Itm} (h : OwnI w B v l) : ∀ g, v.ownBlock = some g → B ≤ g ∧ g < w.heap.size := fun g hg => World.ownsRow.lt h g hg
theorem OwnI.keep {w w' : World} {B : Nat} {v : Value} {l : List Itm} (h : OwnI w B v l) (hk : ∀ g, v.ownBlock = some g → w'.heap[g]? = w.heap[g]?) : OwnI w' B v l := by
  obtain ⟨h1, h2⟩ := h
  refine ⟨h1, ?_⟩
  rcases h2 with h2 | ⟨q, cap, cur, e, hq, hh, r⟩
  · exact .inl h2
  · exact .inr ⟨q, cap, cur, e, hq, (hk q (by rw [e]; rfl)).trans hh, r⟩
theorem ES.step {w0 W W' : World} {mx : Int} {ot : Option Addr} {tn tc : Nat} {T : List Fld} {ov : Value} {O : List Itm} (h : ES w0 mx ot tn tc T ov O W) (hb : Below W.heap.size W W') : ES w0 mx ot tn tc T ov O W' :=
  ⟨(hb.block _ (by have := h.gt; omega)).trans h.ob, (hb.block _ h.gt).trans h.tr, h.oi.keep (fun g hg => hb.block g (h.oi.own_lt g hg).2), h.ft.below hb, h.len, h.sep, bs_hd h.below hb⟩
theorem fieldsE_lt {W : World} {oa : Option Addr} {L : List Fld} (h : FieldsN W oa L) (a : Addr) (ha : oa = some a) (hne : L ≠ []) : a.block < W.heap.size := by
  cases L with
  | nil => exact absurd rfl hne
  | cons f t =>
    obtain ⟨b, o, e, c, _⟩ := h 0 f rfl
    rw [ha] at e
    injection e with e
    subst e
    exact World.block_lt_of_cell? _ _ c
theorem fieldsE_block {W W' : World} {oa : Option Addr} {T : List Fld} (h : FieldsN W oa T) (hk : ∀ a, oa = some a → T ≠ [] → W'.heap[a.block]? = W.heap[a.block]?) : FieldsN W' oa T := fun i f hf => by
  obtain ⟨b, o, e, h0, h1, h2⟩ := h i f hf
  have hb : W'.heap[b]? = W.heap[b]? := hk _ e (fun e2 => by rw [e2] at hf; cases hf)
  exact ⟨b, o, e, (cell_eq hb).trans h0, (cell_eq hb).trans h1, (cell_eq hb).trans h2⟩
/-- One item more. -/
theorem ES.app {w0 W W' : World} {mx : Int} {ot : Option Addr} {tn tc : Nat} {T : List Fld} {ov v : Value} {O O2 : List Itm} (h : ES w0 mx ot tn tc T ov O W) (hg : W.grownBy W' ov.ownBlock) (ho : OwnI W' (w0.heap.size + 2) v O2) (hat : v.ownBlock = ov.ownBlock ∨ v.ownBlock = some W.heap.size) :
    W'.heap[w0.heap.size]? = some (.cells #[ov] 84 (0, 0)) ∧ ES w0 mx ot tn tc T v O2 (W'.setCell ⟨w0.heap.size, 0, none⟩ v) := by
  have hgt := h.gt
  have hob : W'.heap[w0.heap.size]? = some (.cells #[ov] 84 (0, 0)) := (hg.block _ (by omega) (fun e => by have := (h.oi.own_lt _ e.symm).1; omega)).trans h.ob
  have hbe := h.below.grown hg h.below.size (fun k hk => by have := (h.oi.own_lt k hk).1; omega)
  have hft : FieldsN W' ot T := fieldsE_block h.ft (fun a ha hne => hg.block _ (fieldsE_lt h.ft a ha hne) (fun e => (h.sep a ha hne).2.2 e.symm))
  refine ⟨hob, ?_⟩
  rw [setCell_eq_setRow _ _ _ _ _ _ _ hob, show (#[ov] : Array Value).setIfInBounds 0 v = #[v] from rfl]
  refine ⟨setRow_heap _ _ _ _ _ _ hob, (setRow_other _ _ _ _ (by omega)).trans ((hg.block _ hgt (fun e => by have := (h.oi.own_lt _ e.symm).1; omega)).trans h.tr), ho.keep (fun g hg2 => setRow_other _ _ _ _ (by have := (ho.own_lt g hg2).1; omega)), hft.setRow (fun hne a ha => (h.sep a ha hne).1) _, h.len, fun a ha hne => ⟨(h.sep a ha hne).1, (h.sep a ha hne).2.1, fun e => ?_⟩, below_row hbe (Nat.le_refl _) _⟩
  rcases hat with e2 | e2
  · exact (h.sep a ha hne).2.2 (e2 ▸ e)
  · rw [e2] at e
    injection e with e
    have := fieldsE_lt h.ft a ha hne
    omega
/-- The table has turned. -/
theorem ES.turn {w0 W W' : World} {mx mx2 : Int} {ot ot2 : Option Addr} {tn tc tn2 tc2 : Nat} {T T2 : List Fld} {ov : Value} {O : List Itm} (h : ES w0 mx ot tn tc T ov O W) (hb : Below W.heap.size W W') (hf : FieldsN W' ot2 T2) (hl : T2.length = tn2 ∧ tn2 ≤ tc2) (hpos : ∀ a, ot2 = some a → W.heap.size ≤ a.block) :
    ES w0 mx2 ot2 tn2 tc2 T2 ov O (W'.setRow (w0.heap.size + 1) #[.int .i64 mx2, .slice ot2 tn2 tc2]) := by
  have h2 := h.step hb
  have hgt := h.gt
  refine ⟨(setRow_other _ _ _ _ (by omega)).trans h2.ob, setRow_heap _ _ _ _ _ _ h2.tr, h2.oi.keep (fun g hg => setRow_other _ _ _ _ (by have := (h2.oi.own_lt g hg).1; omega)), hf.setRow (fun hne a ha => by have := hpos a ha; omega) _, hl, fun a ha hne => ⟨by have := hpos a ha; omega, by have := hpos a ha; omega, fun e => ?_⟩, below_row h2.below (by omega) _⟩
  have := (h.oi.own_lt _ e).2
  have := hpos a ha
  omega
end Go.Proofs.Yteceinojmdgmeaa


/- henc.Items: the closure that tells a size: the walk. -/
namespace Go.Proofs.Yteceinojmdgmeaa
open Go.RowKit
set_option linter.unusedVariables false
set_option linter.unusedSimpArgs false

def RzPost (w0 : World) (mx most : Int) (T : List Fld) (O : List Itm) (e : Ending) (w' : World) : Prop :=
  e = .returned (.tuple #[]) ∧ ∃ ot2 tn2 tc2 ov2, ES w0 (rzM mx most T) ot2 tn2 tc2 (rzL mx most T) ov2 (rzO mx most O) w'
set_option maxRecDepth 100000 in
set_option maxHeartbeats 2000000 in
theorem erz_any (w0 : World) (mx most : Int) (ot : Option Addr) (tn tc : Nat) (T : List Fld) (hl : ∀ f ∈ T, lightF f = true) (hn30 : tn ≤ 1000) (ov : Value) (O : List Itm) (hO : O.length ≤ 1000) (W : World) (h : ES w0 mx ot tn tc T ov O W) :
    Calls Try.prog 60 #[.int .i64 most, .pointer (some ⟨w0.heap.size + 1, 0, none⟩), .pointer (some ⟨w0.heap.size, 0, none⟩)] W (RzPost w0 mx most T O) := by
  have HE := Lib.hid h
  have HRS := Lib.hid (fun W' (h : ES w0 mx ot tn tc T ov O W' ∨ True) (hf : FieldsN W' ot T) => resize_any mx most ot tn tc T HE.out.len.1 hl hn30 W' hf)
  unfold ResPost at HRS
  unfold RzPost
  obtain ⟨i0, hi0, hz0, hz1, hz2⟩ := info_parts item_info
  have HI := Lib.hid hi0
  have HZ0 := Lib.hid hz0
  have HZ1 := Lib.hid hz1
  have HZ2 := Lib.hid hz2
  have HOL := Lib.hid hO
  clear h hl hn30 hi0 hz0 hz1 hz2 hO
  by_cases hm : most = mx
  · have HM : Hid (rzM mx most T = mx) := Lib.hid (if_neg (by simpa using hm))
    have HL : Hid (rzL mx most T = T) := Lib.hid (if_neg (by simpa using hm))
    have HO : Hid (rzO mx most O = O) := Lib.hid (if_neg (by simpa using hm))
    rw [HM.out, HL.out, HO.out]
    subst hm
    have t0 := cell_of_row _ _ 0 _ _ _ HE.out.tr
    go_enter Try.func60, Try.ntmps60
    go_wp2_with fail
    go_end0
    exact ⟨rfl, ot, tn, tc, ov, HE.out⟩
  · have HM : Hid (rzM mx most T = resM mx most T) := Lib.hid (if_pos hm)
    have HL : Hid (rzL mx most T = resL mx most T) := Lib.hid (if_pos hm)
    have HO : Hid (rzO mx most O = O ++ [⟨4, most, ⟨#[]⟩, ⟨#[]⟩⟩]) := Lib.hid (if_pos hm)
    rw [HM.out, HL.out, HO.out]
    have q1 : (most == mx) = false := beq_eq_false_iff_ne.2 hm
    have q2 : (most != mx) = true := by rw [bne, q1]; rfl
    clear hm HM HL HO
    generalize resM mx most T = rm at HRS ⊢
    generalize resL mx most T = rl at HRS ⊢
    generalize resE mx most T = re at HRS
    have t0 := cell_of_row _ _ 0 _ _ _ HE.out.tr
    have o0 := cell_of_row _ _ 0 _ _ _ HE.out.ob
    have HONE := Lib.hid (show ∀ u ∈ [Value.int .u8 (4 : Int), .int .i64 most, .string ⟨#[]⟩, .string ⟨#[]⟩], u.oneCell' = true from by intro u hu; simp at hu; rcases hu with rfl | rfl | rfl <;> rfl)
    have HEA := Lib.hid (HE.out.step (below_new (.cells #[.int .u8 4, .int .i64 most, .string ⟨#[]⟩, .string ⟨#[]⟩] 49)))
    have HSZ := Lib.hid (show w0.heap.size + 2 ≤ (W.alloc (.cells #[.int .u8 4, .int .i64 most, .string ⟨#[]⟩, .string ⟨#[]⟩] 49)).heap.size from HEA.out.gt)
    go_enter Try.func60, Try.ntmps60
    go_upto_region 2 with (first | (at_builtin; refine wpList_append_own_at _ rfl _ _ 84 rfl (w0.heap.size + 2) 49 i0 _ 4 48 Try.underlying84 HI.out HZ0.out HZ1.out HZ2.out rfl (by omega) ov _ _ rfl HEA.out.oi ⟨W.heap.size, 0, none⟩ 1 1 [Value.int .u8 4, .int .i64 most, .string ⟨#[]⟩, .string ⟨#[]⟩] rfl rfl (cells_new W [Value.int .u8 4, .int .i64 most, .string ⟨#[]⟩, .string ⟨#[]⟩] _) HONE.out (by unfold maxLen; have := HOL.out; omega) (by have := HOL.out; omega) HSZ.out ?_; intro v3 w3 hown3 hg3 _ hat3; have ho3 := OwnI.app (x := ⟨4, most, ⟨#[]⟩, ⟨#[]⟩⟩) hown3; obtain ⟨a3, c3, hv3, _, _, _, _⟩ := ho3.form; generalize (O ++ [(⟨4, most, ⟨#[]⟩, ⟨#[]⟩⟩ : Itm)]).length = n3 at hv3; subst hv3; have HE3 := Lib.hid (HEA.out.app hg3 ho3 hat3); have x3 := cell_of_row _ _ 0 _ _ _ HE3.out.1; have z3 := frozen_of_row _ _ 0 _ _ HE3.out.1; clear hown3 hg3 hat3 ho3))
    clear t0 o0 HE HEA HSZ HONE
    have HE4 := Lib.hid HE3.out.2
    clear x3 z3 HE3
    generalize w3.setCell ⟨w0.heap.size, 0, none⟩ (.slice a3 n3 c3) = w4 at HE4 ⊢
    have t0 := cell_of_row _ _ 0 _ _ _ HE4.out.tr
    have t1 := cell_of_row _ _ 1 _ _ _ HE4.out.tr
    go_wp2_with (first
      | (go_at_call 61; refine (HRS.out _ (.inr trivial) HE4.out.ft).mono ?_; rintro e w5 ⟨v5, rfl, ho5, hb5⟩; obtain ⟨a5, c5, rfl, hf5, hc5, _, hx5⟩ := ho5.form; have HT5 := Lib.hid (HE4.out.turn (mx2 := rm) hb5 hf5 ⟨rfl, hc5⟩ (fun a ha => (hx5 a ha).1)); have HR5 := Lib.hid (HE4.out.step hb5).tr; generalize rl.length = n5 at HT5 ⊢; clear ho5 hb5 hf5 hc5 hx5)
      | (refine wpList_store_row rfl _ _ _ rfl (w0.heap.size + 1) #[.int .i64 rm, .slice a5 n5 c5] rfl rfl _ _ HR5.out (by kernel_rfl) rfl (by kernel_rfl) ?_))
    go_end0
    exact ⟨rfl, a5, n5, c5, _, HT5.out⟩
end Go.Proofs.Yteceinojmdgmeaa

