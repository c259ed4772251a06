/- The walk of RequestBack. (printed by gen_reqback.py) -/
import Derived.Test.YtecmccihldjicaaDoorReqU
import Derived.Test.YtecmccihldjicaaDoorReqX
import Derived.Deep.RegionWith
namespace Go.Proofs.YtecmccihldjicaaDoor
open Go.RowKit
set_option linter.unusedVariables false
set_option linter.unusedSimpArgs false

theorem OwnF.some {w : World} {B : Nat} {v : Value} {L : List Fld} (h : OwnF w B v L) (hL : L ≠ []) : ∃ g cap, v = .slice (some ⟨g, 0, none⟩) L.length cap ∧ B ≤ g ∧ g < w.heap.size := by
  rcases h.2 with ⟨rfl, h0⟩ | ⟨g, cap, cur, rfl, hb, hg, h1, h2, _⟩
  · exact absurd (List.length_eq_zero_iff.1 h0) hL
  · exact ⟨g, cap, rfl, hb, (World.ownsRow.lt h g rfl).2⟩
/-- What stands all through: the request, its fields. -/
structure Bk (w W : World) (g1 gF nF cF : Nat) (F : List Fld) (m s p h : ByteArray) (len rank : Int) : Prop where
  row : QRow 26 W g1 m s p h len rank
  own : OwnF W w.heap.size (.slice (some ⟨gF, 0, none⟩) nF cF) F
  ne : g1 ≠ gF
  ge : w.heap.size ≤ gF
  lt : gF < W.heap.size
  below : Below w.heap.size w W
section
variable {w W W' : World} {g1 gF nF cF : Nat} {F : List Fld} {m s p h : ByteArray} {len rank : Int}
theorem Bk.step (k : Bk w W g1 gF nF cF F m s p h len rank) (hb : Below W.heap.size W W') : Bk w W' g1 gF nF cF F m s p h len rank :=
  ⟨k.row.below hb k.row.lt, k.own.step hb, k.ne, k.ge, Nat.lt_of_lt_of_le k.lt hb.size, k.below.trans (hb.mono k.below.size)⟩
theorem Bk.app {o : Obj} (k : Bk w W g1 gF nF cF F m s p h len rank) (hg : (W.alloc o).grownBy W' (some gF)) (ho : OwnF W' w.heap.size (.slice (some ⟨gF, 0, none⟩) nF cF) F) : Bk w W' g1 gF nF cF F m s p h len rank := by
  have k1 := k.step ((Below.refl _ W).alloc (Nat.le_refl _) o)
  refine ⟨(hg.block g1 k1.row.lt (fun e => ?_)).trans k1.row, ho, k.ne, k.ge, Nat.lt_of_lt_of_le k1.lt hg.size, k1.below.grown hg k1.below.size (fun q hq => ?_)⟩
  · injection e with e; have := k.ne; omega
  · injection hq with hq; rw [← hq]; exact k.ge
theorem QRow.app {T : TypeId} {o : Obj} {g : Nat} (q : QRow T W g m s p h len rank) (hne : g ≠ gF) (hg : (W.alloc o).grownBy W' (some gF)) : QRow T W' g m s p h len rank := by
  have q1 := q.below ((Below.refl _ W).alloc (Nat.le_refl _) o) q.lt
  exact (hg.block g q1.lt (fun e => by injection e with e; have := hne; omega)).trans q1
theorem Bk.fields (k : Bk w W g1 gF nF cF F m s p h len rank) : FieldsN W (some ⟨gF, 0, none⟩) F := by
  obtain ⟨oa, cap, e, hf, _⟩ := k.own.form
  obtain ⟨rfl, _, rfl⟩ := Value.slice.inj e
  exact hf
end
theorem fields_light {m s p h : ByteArray} {len rank : Int} (h1 : m.size ≤ 200) (h2 : s.size ≤ 200) (h3 : p.size ≤ 200) (h4 : h.size ≤ 200) (h5 : len ≤ 1099511627776) (h6 : rank ≤ 9) : (fieldsQ m s p h len rank).all lightF = true := by
  have hd : ∀ n, n ≤ 1099511627776 → (decS n).size ≤ 200 := fun n hn => by have := decS_size n hn; omega
  have hlf : ∀ f : Fld, f.name.size ≤ 200 → f.value.size ≤ 200 → lightF f = true := fun f a b => by unfold lightF; simp [a, b]
  have n1 : aMethod.size ≤ 200 := by decide
  have n2 : aScheme.size ≤ 200 := by decide
  have n3 : aPath.size ≤ 200 := by decide
  have n4 : aAuth.size ≤ 200 := by decide
  have n5 : aLen.size ≤ 200 := by decide
  have n6 : aPrio.size ≤ 200 := by decide
  have q1 : (decS len.toNat).size ≤ 200 := hd _ (by omega)
  have q2 : (aUeq ++ decS rank.toNat).size ≤ 200 := by
    rw [ByteArray.size_append]
    have := decS_size rank.toNat (by omega)
    have e : aUeq.size = 2 := rfl
    omega
  rw [List.all_eq_true]
  intro f hf
  unfold fieldsQ at hf
  simp only [List.mem_append] at hf
  rcases hf with ((hf | hf) | hf) | hf
  · simp at hf
    rcases hf with rfl | rfl | rfl
    · exact hlf _ n1 h1
    · exact hlf _ n2 h2
    · exact hlf _ n3 h3
  · split at hf
    · cases hf
    · obtain rfl := List.mem_singleton.1 hf; exact hlf _ n4 h4
  · split at hf
    · obtain rfl := List.mem_singleton.1 hf; exact hlf _ n5 q1
    · cases hf
  · split at hf
    · cases hf
    · obtain rfl := List.mem_singleton.1 hf; exact hlf _ n6 q2
theorem FieldsN.lit (W : World) (news : List Fld) (cs : Array Value) (h : cs = (fcells news).toArray) : FieldsN (W.alloc (.cells cs 42)) (some ⟨W.heap.size, 0, none⟩) news := by
  subst h
  refine FieldsN.ofCells fun j u hu => ?_
  have := cells_new W (fcells news) 42 j u hu
  rw [add_zero] at this
  simpa using this
theorem wpList_keepF {ops : Array Oper} {rest : List Oper} {o : Oper} {a : Act} {Q : Exit → Act → World → Prop} {w : World} (hgd : o.guard = none) (s x : Operand)
    (ho : o.op = .call { callee := .builtin .append, args := #[s, x], argTypes := #[22, 22] })
    (base g cap nL : Nat) (L : List Fld) (hs : a.eval s = .slice (some ⟨g, 0, none⟩) nL cap) (hown : OwnF w base (.slice (some ⟨g, 0, none⟩) nL cap) L) (hnL : L.length = nL) (ad : Addr) (m c : Nat) (news : List Fld) (hx : a.eval x = .slice (some ad) m c) (hm : news.length = m)
    (hby : FieldsN w (some ad) news) (hl : L.length + m ≤ 1000000) (hbase : base ≤ w.heap.size)
    (h : ∀ v' w', OwnF w' base v' (L ++ news) → w.grownBy w' (some g) → OwnF w' base (.slice (some ⟨g, 0, none⟩) nL cap) L → wpList Tryd.prog ops Q rest (a.put o.dst v') w') :
    wpList Tryd.prog ops Q (o :: rest) a w := by
  subst hm
  subst hnL
  obtain ⟨i0, hi0, hz0, hz1, hz2⟩ := info_parts field_info
  refine wpList_append_keep hgd s x 22 ho base 42 i0 _ 3 40 Tryd.underlying22 hi0 hz0 hz1 hz2 rfl (by omega) g cap L.length (fcells L) hs hown ad _ c (fcells news) hx (fcells_len news) ?_ (fcells_one news) (by unfold maxLen; omega) (by omega) hbase ?_
  · intro j u hu
    obtain ⟨f, hf, hju⟩ := fcells_inv news j u hu
    obtain ⟨b, o, ha, h0, h1, h2⟩ := hby (j / 3) f hf
    obtain rfl := Option.some.inj ha
    have e : (⟨b, o, none⟩ : Addr).add j = ⟨b, o + j, none⟩ := by unfold Addr.add; split <;> simp_all
    rw [e]
    have h3 := Nat.mod_lt j (show 0 < 3 by decide)
    have hd := Nat.div_add_mod j 3
    rcases (show j % 3 = 0 ∨ j % 3 = 1 ∨ j % 3 = 2 by omega) with h | h | h
    · rw [h] at hju; obtain rfl : u = .string f.name := by simpa [Fld.cells] using hju.symm
      rw [show o + j = o + j / 3 * 3 by omega]; exact h0
    · rw [h] at hju; obtain rfl : u = .string f.value := by simpa [Fld.cells] using hju.symm
      rw [show o + j = o + j / 3 * 3 + 1 by omega]; exact h1
    · rw [h] at hju; obtain rfl : u = .bool f.never := by simpa [Fld.cells] using hju.symm
      rw [show o + j = o + j / 3 * 3 + 2 by omega]; exact h2
  · intro v' w' h1 h2 h3
    exact h v' w' (by unfold OwnF; rw [fcells_append, List.length_append]; exact h1) h2 h3
def bX (more : ByteArray) : Fld := ⟨⟨#[120, 45]⟩ ++ more, ⟨#[121]⟩, false⟩
def bY : Fld := ⟨⟨#[120]⟩, ⟨#[121]⟩, false⟩
def bZ (more : ByteArray) : Fld := ⟨⟨#[58]⟩ ++ more, ⟨#[121]⟩, false⟩
theorem bX_name (more : ByteArray) : (bX more).name.data.toList = 120 :: 45 :: more.data.toList := by unfold bX; rw [app_list]; rfl
theorem bZ_name (more : ByteArray) : (bZ more).name.data.toList = 58 :: more.data.toList := by unfold bZ; rw [app_list]; rfl
theorem bX_plain (more : ByteArray) : plainB (bX more) true = nameS false (120 :: 45 :: more.data.toList) := by
  unfold plainB
  rw [bX_name, if_neg (by simp)]
  have h1 : valS (bX more).value.data.toList = true := rfl
  have h2 : barB (120 :: 45 :: more.data.toList) = false := by unfold barB barL; simp
  rw [h1, h2]
  simp
theorem bX_vals (more : ByteArray) : valuesL [bX more] nLen = [] ∧ valuesL [bX more] nPrio = [] ∧ valuesL [bX more] nHost = [] := by
  refine ⟨?_, ?_, ?_⟩
  all_goals
    rw [valuesL_cons, bX_name, if_neg (by simp [nLen, nPrio, nHost])]
    rfl
theorem bX_colon (more : ByteArray) : colonB (bX more) = false := by unfold colonB; rw [bX_name, hp_ne (by decide)]
theorem bZ_colon (more : ByteArray) : colonB (bZ more) = true := by unfold colonB; rw [bZ_name, hp_eq, hp_nil]
theorem back_x {en : Bool} {m s p h : ByteArray} {len rank : Int} (Q : QGood en m s p h len rank) (more : ByteArray) :
    reqV (readS (fieldsQ m s p h len rank ++ [bX more]) en) = (if nameS false (120 :: 45 :: more.data.toList) then .agg #[.string m, .string s, .string p, .string h, .int .i64 len, .int .i64 rank] else reqV none) ∧
    (readS (fieldsQ m s p h len rank ++ [bX more]) en).isSome = nameS false (120 :: 45 :: more.data.toList) := by
  cases hn : nameS false (120 :: 45 :: more.data.toList) with
  | true =>
    obtain ⟨x1, x2, x3⟩ := bX_vals more
    obtain ⟨G, e⟩ := fields_good Q [bX more] (by simp [bX_plain, hn]) x1 x2 x3
    exact ⟨(readS_good G).1.trans e, (readS_good G).2⟩
  | false =>
    rw [fields_none [bX more] ⟨_, _, rfl, bX_colon more⟩ (by simp [bX_plain, hn])]
    exact ⟨rfl, rfl⟩
theorem back_z (en : Bool) (m s p h : ByteArray) (len rank : Int) (more : ByteArray) : readS (fieldsQ m s p h len rank ++ [bY, bZ more]) en = none := by
  refine fields_none [bY, bZ more] ⟨_, _, rfl, rfl⟩ ?_
  have : plainB (bZ more) true = false := by
    cases hp : plainB (bZ more) true with
    | false => rfl
    | true => have := plain_colon hp; rw [bZ_colon] at this; cases this
  simp [this]
theorem back_self {en : Bool} {m s p h : ByteArray} {len rank : Int} (Q : QGood en m s p h len rank) :
    reqV (readS (fieldsQ m s p h len rank) en) = .agg #[.string m, .string s, .string p, .string h, .int .i64 len, .int .i64 rank] ∧ (readS (fieldsQ m s p h len rank) en).isSome = true := by
  obtain ⟨G, e⟩ := fields_good Q [] rfl rfl rfl rfl
  rw [List.append_nil] at G e
  exact ⟨(readS_good G).1.trans e, (readS_good G).2⟩
theorem back_trail (m s p h : ByteArray) (len rank : Int) : trailB (fieldsQ m s p h len rank) = false := by
  refine trailB_no (k := 0) (f := ⟨aMethod, m, false⟩) ?_ ?_
  · unfold fieldsQ; simp
  · show (nameS false nMethod && (valS m.data.toList && !barB nMethod)) = false
    have : nameS false nMethod = false := by decide
    rw [this]; rfl
theorem good_size {L : List Fld} (hl : L.all lightF = true) {en : Bool} {m s p : ByteArray} (G : Good L en m s p) : m.size ≤ 200 ∧ s.size ≤ 200 ∧ p.size ≤ 200 ∧ (goodR L m s p).h.size ≤ 200 := by
  have h1 : (L.take (frontN L)).all lightF = true := List.all_eq_true.2 fun x hx => List.all_eq_true.1 hl x (List.mem_of_mem_take hx)
  have h2 : (L.drop (frontN L)).all lightF = true := List.all_eq_true.2 fun x hx => List.all_eq_true.1 hl x (List.mem_of_mem_drop hx)
  refine ⟨values_size h1 m (by rw [G.hm]; simp), values_size h1 s (by rw [G.hs]; simp), values_size h1 p (by rw [G.hp]; simp), ?_⟩
  show (hostV (valuesL (L.take (frontN L)) nAuth ++ valuesL (L.drop (frontN L)) nHost)).size ≤ 200
  cases hV : valuesL (L.take (frontN L)) nAuth with
  | cons x t => exact values_size h1 x (by rw [hV]; simp)
  | nil =>
    cases hX : valuesL (L.drop (frontN L)) nHost with
    | nil => exact Nat.zero_le _
    | cons x t => exact values_size h2 x (by rw [hX]; simp)

end Go.Proofs.YtecmccihldjicaaDoor
