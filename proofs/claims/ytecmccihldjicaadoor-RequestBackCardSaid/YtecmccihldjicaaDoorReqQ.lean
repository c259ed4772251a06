/- The document's Read of a request. (printed by gen_refread.py) -/
import Derived.Test.YtecmccihldjicaaDoorReqP
import Derived.Maps.AppendAt
import Derived.Laws.OwnMore
namespace Go.Proofs.YtecmccihldjicaaDoor
open Go.RowKit
set_option linter.unusedVariables false
set_option linter.unusedSimpArgs false

theorem wpList_appS {ops : Array Oper} {rest : List Oper} {o : Oper} {a : Act} {Q : Exit → Act → World → Prop} {w : World} (hgd : o.guard = none) (s x : Operand)
    (ho : o.op = .call { callee := .builtin .append, args := #[s, x], argTypes := #[55, 55] })
    (base : Nat) (v : Value) (l : List ByteArray) (hs : a.eval s = v) (hown : OwnS w base v l) (ox : Option Addr) (m c : Nat) (news : List ByteArray) (hx : a.eval x = .slice ox m c) (hm : news.length = m) (hmc : m ≤ c)
    (hby : StrsN w ox news) (hl : l.length + m ≤ 1000000) (hbase : base ≤ w.heap.size)
    (h : ∀ v' w', OwnS w' base v' (l ++ news) → Below base w w' → (∀ k, k < w.heap.size → v.ownBlock ≠ some k → w'.heap[k]? = w.heap[k]?) → wpList Tryd.prog ops Q rest (a.put o.dst v') w') :
    wpList Tryd.prog ops Q (o :: rest) a w := by
  subst hm
  obtain ⟨i0, hi0, hz0, hz1, hz2⟩ := info_parts string_info
  cases ox with
  | none =>
    have hn : news = [] := by
      cases news with
      | nil => rfl
      | cons y t => obtain ⟨_, e, _⟩ := hby 0 y rfl; cases e
    subst hn
    refine wpList_plain hgd fun K hK => ?_
    have hr : (Builtin.append_ #[55, 55] o.type #[v, .slice none 0 c]).run Tryd.prog w = .ok v w := by
      rcases hown.2 with ⟨rfl, _⟩ | ⟨g, cap, cur, rfl, _, _, hnc, _⟩
      · simp [Builtin.append_, run_underlying Tryd.underlying55, sizeOf, typeInfo, hi0, Builtin.lenOf, Builtin.firstCells]
      · simp [Builtin.append_, run_underlying Tryd.underlying55, sizeOf, typeInfo, hi0, Builtin.lenOf, Builtin.firstCells, hnc, storeCells]
    have hx' : a.eval x = .slice none 0 c := hx
    unfold Oper.wp execOp
    simp only [ho, resolve, invoke, builtin, Sem.run_bind, Sem.run_pure, Result.andThen_ok, List.map_toArray, List.map_cons, List.map_nil, hs, hx', hr]
    exact hK _ _ (h v w (by rw [List.append_nil]; exact hown) (Below.refl _ _) (fun _ _ _ => rfl))
  | some ad =>
    refine wpList_append_own_at _ hgd s x 55 ho base 9 i0 _ 1 16 Tryd.underlying55 hi0 hz0 hz1 hz2 rfl (by omega) v _ _ hs hown ad _ c (news.map Value.string) hx (by simp) ?_ (by intro u hu; obtain ⟨y, _, rfl⟩ := List.mem_map.1 hu; rfl) (by unfold maxLen; omega) (by omega) hbase ?_
    · intro j u hu
      obtain ⟨y, hy, rfl⟩ := by simpa using hu
      obtain ⟨g, ha, hc⟩ := hby j y hy
      obtain rfl := Option.some.inj ha
      rw [add_zero]
      exact hc
    · intro v' w' hown' hg _ _
      exact h v' w' (by unfold OwnS; rw [List.map_append, List.length_append]; exact hown') ((Below.refl base w).grown hg hbase (fun q hq => (World.ownsRow.lt hown q hq).1)) (fun k hk hne => hg.block k hk (fun e => hne e.symm))
theorem fcells_inv : ∀ (L : List Fld) (j : Nat) (u : Value), (fcells L)[j]? = some u → ∃ f, L[j / 3]? = some f ∧ f.cells[j % 3]? = some u
  | [], j, u, h => by simp [fcells] at h
  | f :: t, j, u, h => by
    rw [fcells_cons] at h
    by_cases hj : j < 3
    · rw [List.getElem?_append_left (by simp [Fld.cells]; exact hj)] at h
      rw [Nat.div_eq_of_lt hj, Nat.mod_eq_of_lt hj]
      exact ⟨f, rfl, h⟩
    · rw [List.getElem?_append_right (by simp [Fld.cells]; omega)] at h
      have e : f.cells.length = 3 := rfl
      rw [e] at h
      obtain ⟨g, hg, hu⟩ := fcells_inv t (j - 3) u h
      have h1 : j / 3 = (j - 3) / 3 + 1 := by omega
      have h2 : j % 3 = (j - 3) % 3 := by omega
      rw [h1, h2]
      exact ⟨g, by simpa using hg, hu⟩
theorem wpList_appF {ops : Array Oper} {rest : List Oper} {o : Oper} {a : Act} {Q : Exit → Act → World → Prop} {w : World} (hgd : o.guard = none) (s x : Operand)
    (ho : o.op = .call { callee := .builtin .append, args := #[s, x], argTypes := #[22, 22] })
    (base : Nat) (v : Value) (l : List Fld) (hs : a.eval s = v) (hown : OwnF w base v l) (ox : Option Addr) (m c : Nat) (news : List Fld) (hx : a.eval x = .slice ox m c) (hm : news.length = m) (hmc : m ≤ c)
    (hby : FieldsN w ox news) (hl : l.length + m ≤ 1000000) (hbase : base ≤ w.heap.size)
    (h : ∀ v' w', OwnF w' base v' (l ++ news) → Below base w w' → (∀ k, k < w.heap.size → v.ownBlock ≠ some k → w'.heap[k]? = w.heap[k]?) → wpList Tryd.prog ops Q rest (a.put o.dst v') w') :
    wpList Tryd.prog ops Q (o :: rest) a w := by
  subst hm
  obtain ⟨i0, hi0, hz0, hz1, hz2⟩ := info_parts field_info
  cases ox with
  | none =>
    have hn : news = [] := by
      cases news with
      | nil => rfl
      | cons y t => obtain ⟨_, _, e, _⟩ := hby 0 y rfl; cases e
    subst hn
    refine wpList_plain hgd fun K hK => ?_
    have hr : (Builtin.append_ #[22, 22] o.type #[v, .slice none 0 c]).run Tryd.prog w = .ok v w := by
      rcases hown.2 with ⟨rfl, _⟩ | ⟨g, cap, cur, rfl, _, _, hnc, _⟩
      · simp [Builtin.append_, run_underlying Tryd.underlying22, sizeOf, typeInfo, hi0, Builtin.lenOf, Builtin.firstCells]
      · simp [Builtin.append_, run_underlying Tryd.underlying22, sizeOf, typeInfo, hi0, Builtin.lenOf, Builtin.firstCells, hnc, storeCells]
    have hx' : a.eval x = .slice none 0 c := hx
    unfold Oper.wp execOp
    simp only [ho, resolve, invoke, builtin, Sem.run_bind, Sem.run_pure, Result.andThen_ok, List.map_toArray, List.map_cons, List.map_nil, hs, hx', hr]
    exact hK _ _ (h v w (by rw [List.append_nil]; exact hown) (Below.refl _ _) (fun _ _ _ => rfl))
  | some ad =>
    refine wpList_append_own_at _ hgd s x 22 ho base 42 i0 _ 3 40 Tryd.underlying22 hi0 hz0 hz1 hz2 rfl (by omega) v _ _ hs hown ad _ c (fcells news) hx (fcells_len news) ?_ (fcells_one news) (by unfold maxLen; omega) (by omega) hbase ?_
    · intro j u hu
      obtain ⟨f, hf, hju⟩ := fcells_inv news j u hu
      obtain ⟨b, o, ha, h0, h1, h2⟩ := hby (j / 3) f hf
      obtain rfl := Option.some.inj ha
      have e : (⟨b, o, none⟩ : Addr).add j = ⟨b, o + j, none⟩ := by unfold Addr.add; split <;> simp_all
      rw [e]
      have h3 := Nat.mod_lt j (show 0 < 3 by decide)
      have hd := Nat.div_add_mod j 3
      rcases (show j % 3 = 0 ∨ j % 3 = 1 ∨ j % 3 = 2 by omega) with h | h | h
      · rw [h] at hju; obtain rfl : u = .string f.name := by simpa [Fld.cells] using hju.symm
        rw [show o + j = o + j / 3 * 3 by omega]; exact h0
      · rw [h] at hju; obtain rfl : u = .string f.value := by simpa [Fld.cells] using hju.symm
        rw [show o + j = o + j / 3 * 3 + 1 by omega]; exact h1
      · rw [h] at hju; obtain rfl : u = .bool f.never := by simpa [Fld.cells] using hju.symm
        rw [show o + j = o + j / 3 * 3 + 2 by omega]; exact h2
    · intro v' w' hown' hg _ _
      exact h v' w' (by unfold OwnF; rw [fcells_append, List.length_append]; exact hown') ((Below.refl base w).grown hg hbase (fun q hq => (World.ownsRow.lt hown q hq).1)) (fun k hk hne => hg.block k hk (fun e => hne e.symm))
theorem QRow.lt {T : TypeId} {W : World} {q : Nat} {m s p h : ByteArray} {len rank : Int} (hh : QRow T W q m s p h len rank) : q < W.heap.size := World.block_lt_of_cell? W ⟨q, 0, none⟩ (cell_of_row _ _ 0 _ _ _ hh)
theorem QRow.below {T : TypeId} {W W' : World} {q B : Nat} {m s p h : ByteArray} {len rank : Int} (hh : QRow T W q m s p h len rank) (hb : Below B W W') (hg : q < B) : QRow T W' q m s p h len rank := (hb.block q hg).trans hh
structure RP where
  m : ByteArray
  s : ByteArray
  p : ByteArray
  hosts : List ByteArray
  len : Int
/-- The parts of what is read. -/
def rpOf (L : List Fld) : RP := ⟨oneV (L.take (frontN L)) nMethod, oneV (L.take (frontN L)) nScheme, oneV (L.take (frontN L)) nPath, valuesL (L.take (frontN L)) nAuth, (lenGo (valuesL (L.drop (frontN L)) nLen) 0 (-1)).1⟩
def ok8 (L : List Fld) : Bool :=
  oneB (L.take (frontN L)) nMethod && oneB (L.take (frontN L)) nScheme && oneB (L.take (frontN L)) nPath && (lenGo (valuesL (L.drop (frontN L)) nLen) 0 (-1)).2 && nameS true (rpOf L).m.data.toList &&
    (((rpOf L).s.toList == [104, 116, 116, 112]) || ((rpOf L).s.toList == [104, 116, 116, 112, 115])) && decide ((rpOf L).hosts.length ≤ 1) && decide (frontN L = 3 + (rpOf L).hosts.length) && trailB (restL (L.drop (frontN L)))
def ok9 (L : List Fld) (en : Bool) : Bool :=
  ok8 L && (Lib.hasPrefix (rpOf L).p.data.toList [47] || (((rpOf L).p.toList == [42]) && ((rpOf L).m.toList == [79, 80, 84, 73, 79, 78, 83]))) && (!en || decide ((rpOf L).len ≤ 0))
def okR (L : List Fld) (en : Bool) : Bool := ok9 L en && (rpOf L).hosts.all (fun x => valS x.data.toList)
def rankV : List ByteArray → Int
  | [] => 3
  | x :: _ => rankS x.data.toList
def hostV : List ByteArray → ByteArray
  | [] => ⟨#[]⟩
  | x :: _ => x
/-- What the document reads. -/
def refR (L : List Fld) (en : Bool) : Option Rd :=
  if okR L en then some ⟨(rpOf L).m, (rpOf L).s, (rpOf L).p, hostV ((rpOf L).hosts ++ valuesL (L.drop (frontN L)) nHost), (rpOf L).len, rankV (valuesL (L.drop (frontN L)) nPrio), ⟨#[]⟩⟩ else none
theorem oneVo_size {V : List ByteArray} {M : Nat} (h : ∀ x ∈ V, x.size ≤ M) : (oneVo V).size ≤ M := by
  match V, h with
  | [], _ => exact Nat.zero_le _
  | [x], h => exact h x (by simp)
  | _ :: _ :: _, _ => exact Nat.zero_le _
theorem oneV_size {L : List Fld} {l : List UInt8} (h : L.all lightF = true) : (oneV L l).size ≤ 200 := oneVo_size (values_size h)
theorem bs_st {w2 Wc W' : World} (h : Below w2.heap.size w2 Wc) (hb : Below Wc.heap.size Wc W') : Below w2.heap.size w2 W' := h.trans (hb.mono h.size)
theorem slash_list (s : ByteArray) (h : 0 < s.size) : Lib.hasPrefix s.data.toList [47] = ((s[0].toNat : Int) == 47) := by
  have hh := head_byte s h
  cases hl : s.data.toList with
  | nil => rw [hl] at hh; cases hh
  | cons a t =>
    rw [hl] at hh
    obtain rfl : a = s[0] := by simpa using hh
    by_cases ha : s[0] = 47
    · rw [ha, hp_eq, hp_nil]; rfl
    · rw [hp_ne ha]
      have := (u8_ne s[0] 47).1 ha
      exact (beq_eq_false_iff_ne.2 this).symm
set_option maxRecDepth 100000 in
set_option maxHeartbeats 16000000 in
theorem refRead_any (oa : Option Addr) (n cap : Nat) (L : List Fld) (hn : L.length = n) (hn2 : n ≤ 100) (hcap : n ≤ cap) (hl : L.all lightF = true) (en : Bool) (w : World) (hf : FieldsN w oa L) :
    Calls Tryd.prog 11 #[.slice oa n cap, .bool en] w fun e w' => e = .returned (.tuple #[reqV (refR L en), .bool (refR L en).isSome]) ∧ Below w.heap.size w w' := by
  have HF := Lib.hid hf
  have HN := Lib.hid hn
  have HCF := Lib.hid (fun W => front_any oa n cap L hn (by omega) W)
  have hkn := frontN_le L
  rw [hn] at hkn
  obtain ⟨k, hk⟩ : ∃ k, frontN L = k := ⟨_, rfl⟩
  have HK := Lib.hid hk
  rw [hk] at HCF hkn
  have hw1 : IntKind.i64.wrap ((n : Int) - (k : Int)) = ((n - k : Nat) : Int) := by rw [IntWalk.i64_in _ (by omega)]; omega
  have HLH : Hid ((L.take k).all lightF = true) := Lib.hid (List.all_eq_true.2 fun x hx => List.all_eq_true.1 hl x (List.mem_of_mem_take hx))
  have HLT : Hid ((L.drop k).all lightF = true) := Lib.hid (List.all_eq_true.2 fun x hx => List.all_eq_true.1 hl x (List.mem_of_mem_drop hx))
  have HNH : Hid ((L.take k).length = k) := Lib.hid (by rw [List.length_take, hn]; omega)
  have HNT : Hid ((L.drop k).length = n - k) := Lib.hid (by rw [List.length_drop, hn])
  have HFT0 : Hid (FieldsN w (if cap = k then oa else Option.map (fun x => x.add (k * 3)) oa) (L.drop k)) := Lib.hid (by
    by_cases hc : cap = k
    · have : L.drop k = [] := List.drop_eq_nil_of_le (by omega)
      rw [this]; exact FieldsN.nil _ _
    · rw [if_neg hc]
      cases oa with
      | none => have := FieldsN.none_nil hf; subst this; simp; exact FieldsN.nil _ _
      | some a =>
        cases L with
        | nil => simp; exact FieldsN.nil _ _
        | cons f t =>
          obtain ⟨b, o, e, _⟩ := hf 0 f rfl
          injection e with e
          subst e
          have e : (⟨b, o, none⟩ : Addr).add (k * 3) = ⟨b, o + k * 3, none⟩ := by unfold Addr.add; split <;> simp_all
          simp only [Option.map_some, e]
          exact FieldsN.drop hf)
  have HFH0 : Hid (FieldsN w oa (L.take k)) := Lib.hid hf.take
  have HROW0 := Lib.hid (show QRow 29 (w.alloc (.cells #[.string ⟨#[]⟩, .string ⟨#[]⟩, .string ⟨#[]⟩, .string ⟨#[]⟩, .int .i64 0, .int .i64 0] 29)) w.heap.size ⟨#[]⟩ ⟨#[]⟩ ⟨#[]⟩ ⟨#[]⟩ 0 0 from heap_alloc_new w _)
  have HB0 := Lib.hid ((Below.refl w.heap.size w).alloc (Nat.le_refl _) (.cells #[.string ⟨#[]⟩, .string ⟨#[]⟩, .string ⟨#[]⟩, .string ⟨#[]⟩, .int .i64 0, .int .i64 0] 29))
  have HHS := Lib.hid (values_size (l := nAuth) HLH.out)
  have HMS : Hid ((rpOf L).m.size ≤ 200) := Lib.hid (oneV_size (hk ▸ HLH.out))
  have HOK8 : Hid (ok8 L = (oneB (L.take k) nMethod && oneB (L.take k) nScheme && oneB (L.take k) nPath && (lenGo (valuesL (L.drop k) nLen) 0 (-1)).2 && nameS true (rpOf L).m.data.toList && (((rpOf L).s.toList == [104, 116, 116, 112]) || ((rpOf L).s.toList == [104, 116, 116, 112, 115])) && decide ((rpOf L).hosts.length ≤ 1) && decide (k = 3 + (rpOf L).hosts.length) && trailB (restL (L.drop k)))) := Lib.hid (by unfold ok8; rw [hk])
  have HOK9 : Hid (ok9 L en = (ok8 L && (Lib.hasPrefix (rpOf L).p.data.toList [47] || (((rpOf L).p.toList == [42]) && ((rpOf L).m.toList == [79, 80, 84, 73, 79, 78, 83]))) && (!en || decide ((rpOf L).len ≤ 0)))) := Lib.hid rfl
  have HRP : Hid (rpOf L = ⟨oneV (L.take k) nMethod, oneV (L.take k) nScheme, oneV (L.take k) nPath, valuesL (L.take k) nAuth, (lenGo (valuesL (L.drop k) nLen) 0 (-1)).1⟩) := Lib.hid (by unfold rpOf; rw [hk])
  have HOKR : Hid (refR L en = if okR L en then some ⟨(rpOf L).m, (rpOf L).s, (rpOf L).p, hostV ((rpOf L).hosts ++ valuesL (L.drop k) nHost), (rpOf L).len, rankV (valuesL (L.drop k) nPrio), ⟨#[]⟩⟩ else none) := Lib.hid (by unfold refR; rw [hk])
  have HOKE : Hid (okR L en = (ok9 L en && (rpOf L).hosts.all (fun x => valS x.data.toList))) := Lib.hid rfl
  rw [HRP.out] at HMS HOK8 HOK9 HOKR HOKE
  simp only at HMS HOK8 HOK9 HOKR HOKE
  have HC1 := Lib.hid (show ∀ W, Below w.heap.size w W → Calls Tryd.prog 28 #[.slice oa k cap, .string ⟨#[58, 109, 101, 116, 104, 111, 100]⟩] W (fun e w' => e = .returned (.tuple #[.string (oneV (L.take k) nMethod), .bool (oneB (L.take k) nMethod)]) ∧ Below W.heap.size W w') from fun W hW => one_any oa k cap (L.take k) HNH.out (by omega) HLH.out ⟨#[58, 109, 101, 116, 104, 111, 100]⟩ W (HFH0.out.below hW))
  have HC2 := Lib.hid (show ∀ W, Below w.heap.size w W → Calls Tryd.prog 28 #[.slice oa k cap, .string ⟨#[58, 115, 99, 104, 101, 109, 101]⟩] W (fun e w' => e = .returned (.tuple #[.string (oneV (L.take k) nScheme), .bool (oneB (L.take k) nScheme)]) ∧ Below W.heap.size W w') from fun W hW => one_any oa k cap (L.take k) HNH.out (by omega) HLH.out ⟨#[58, 115, 99, 104, 101, 109, 101]⟩ W (HFH0.out.below hW))
  have HC3 := Lib.hid (show ∀ W, Below w.heap.size w W → Calls Tryd.prog 28 #[.slice oa k cap, .string ⟨#[58, 112, 97, 116, 104]⟩] W (fun e w' => e = .returned (.tuple #[.string (oneV (L.take k) nPath), .bool (oneB (L.take k) nPath)]) ∧ Below W.heap.size W w') from fun W hW => one_any oa k cap (L.take k) HNH.out (by omega) HLH.out ⟨#[58, 112, 97, 116, 104]⟩ W (HFH0.out.below hW))
  have HC4 := Lib.hid (show ∀ W, Below w.heap.size w W → Calls Tryd.prog 29 #[.slice oa k cap, .string ⟨#[58, 97, 117, 116, 104, 111, 114, 105, 116, 121]⟩] W (ValPost (L.take k) nAuth W) from fun W hW => values_any oa k cap (L.take k) HNH.out (by omega) ⟨#[58, 97, 117, 116, 104, 111, 114, 105, 116, 121]⟩ W (HFH0.out.below hW))
  go_enter Tryd.func11, Tryd.ntmps11
  go_upto_region 2 with (first | (go_at_call 27; refine (HCF.out _ (HF.out.below ((Below.refl _ w).alloc (Nat.le_refl _) _))).mono ?_; rintro e w2 ⟨rfl, hb2⟩))
  have HBC := Lib.hid (bs_st HB0.out hb2)
  have HZR := Lib.hid (HROW0.out.below hb2 HROW0.out.lt)
  clear hb2
  go_region
  replace HBC := Lib.hid HBC.out.drew
  replace HZR : Hid (QRow 29 w2.drew w.heap.size ⟨#[]⟩ ⟨#[]⟩ ⟨#[]⟩ ⟨#[]⟩ 0 0) := Lib.hid HZR.out
  generalize w2.drew = w2d at HBC HZR ⊢
  generalize (if cap = k then oa else Option.map (fun x => x.add (k * 3)) oa) = ot at HFT0 ⊢
  generalize cap - k = ct
  generalize hnt : n - k = nt at HNT hw1 ⊢
  have hnt2 : nt ≤ n := by omega
  clear hnt hw1
  have HC5 := Lib.hid (fun W (hW : Below w.heap.size w W) => length_any ot nt ct (L.drop k) HNT.out (by omega) HLT.out W (HFT0.out.below hW))
  have HC6 := Lib.hid (show ∀ W, Below w.heap.size w W → Calls Tryd.prog 29 #[.slice ot nt ct, .string ⟨#[104, 111, 115, 116]⟩] W (ValPost (L.drop k) nHost W) from fun W hW => values_any ot nt ct (L.drop k) HNT.out (by omega) ⟨#[104, 111, 115, 116]⟩ W (HFT0.out.below hW))
  have HC7 := Lib.hid (show ∀ W, Below w.heap.size w W → Calls Tryd.prog 29 #[.slice ot nt ct, .string ⟨#[112, 114, 105, 111, 114, 105, 116, 121]⟩] W (ValPost (L.drop k) nPrio W) from fun W hW => values_any ot nt ct (L.drop k) HNT.out (by omega) ⟨#[112, 114, 105, 111, 114, 105, 116, 121]⟩ W (HFT0.out.below hW))
  have HC8 := Lib.hid (fun W (hW : Below w.heap.size w W) => rest_any ot nt ct (L.drop k) HNT.out (by omega) W (HFT0.out.below hW))
  have HLR : Hid ((restL (L.drop k)).all lightF = true) := Lib.hid (List.all_eq_true.2 fun x hx => List.all_eq_true.1 HLT.out x (List.mem_filter.1 hx).1)
  have HNR : Hid ((restL (L.drop k)).length ≤ 1000) := Lib.hid (Nat.le_trans (List.length_filter_le _ _) (by rw [HNT.out]; omega))
  have HC9 := Lib.hid (fun (orr : Option Addr) (cr : Nat) W hW => refTrailers_any orr _ cr (restL (L.drop k)) rfl HNR.out HLR.out W hW)
  have HXS := Lib.hid (values_size (l := nHost) HLT.out)
  have HYS := Lib.hid (values_size (l := nPrio) HLT.out)
  have hvl := valuesL_le (L.take k) nAuth
  rw [HNH.out] at hvl
  have hxl := valuesL_le (L.drop k) nHost
  rw [HNT.out] at hxl
  have hyl := valuesL_le (L.drop k) nPrio
  rw [HNT.out] at hyl
  unfold RestPost at HC8
  unfold ValPost at HC4 HC6 HC7
  generalize oneV (L.take k) nMethod = m at *
  generalize oneV (L.take k) nScheme = s at *
  generalize oneV (L.take k) nPath = p at *
  generalize oneB (L.take k) nMethod = ba at *
  generalize oneB (L.take k) nScheme = bb at *
  generalize oneB (L.take k) nPath = bc at *
  generalize valuesL (L.take k) nAuth = V at *
  generalize valuesL (L.drop k) nHost = X at *
  generalize valuesL (L.drop k) nPrio = Y at *
  generalize (lenGo (valuesL (L.drop k) nLen) 0 (-1)).1 = ln at *
  generalize (lenGo (valuesL (L.drop k) nLen) 0 (-1)).2 = bd at *
  generalize trailB (restL (L.drop k)) = tr at *
  generalize restL (L.drop k) = TL at *
  have HMT := Lib.hid (fun W => method_any m W (by have := HMS.out; omega))
  generalize nameS true m.data.toList = mt at HOK8 HMT
  clear HRP HLH HLT HNH HNT HK HLR HCF HROW0 HB0 HFH0 hk
  generalize ok8 L = o8 at *
  generalize ok9 L en = o9 at *
  generalize okR L en = oR at *
  obtain ⟨s1, q1⟩ : ∃ b, (s.toList == [104, 116, 116, 112]) = b := ⟨_, rfl⟩
  obtain ⟨s2, q2⟩ : ∃ b, (s.toList == [104, 116, 116, 112, 115]) = b := ⟨_, rfl⟩
  rw [q1, q2] at HOK8
  obtain ⟨nV, hnV⟩ : ∃ c, V.length = c := ⟨_, rfl⟩
  rw [hnV] at HOK8 HC4 hvl
  have HNV := Lib.hid hnV
  clear hnV
  obtain ⟨x3, hx3⟩ : ∃ x : Int, x = 3 + (nV : Int) := ⟨_, rfl⟩
  have hw3 : IntKind.i64.wrap (3 + (nV : Int)) = x3 := by rw [hx3]; exact IntWalk.i64_in _ (by omega)
  obtain ⟨h1, e1⟩ : ∃ b, decide (nV ≤ 1) = b := ⟨_, rfl⟩
  have e1' : decide ((nV : Int) ≤ 1) = h1 := by rw [← e1]; exact decide_eq_decide.2 (by omega)
  obtain ⟨h2, e2⟩ : ∃ b, decide (k = 3 + nV) = b := ⟨_, rfl⟩
  have e2' : ((k : Int) == x3) = h2 := by rw [← e2, Bool.eq_iff_iff]; simp; omega
  rw [e1, e2] at HOK8
  clear e2 hx3
  go_upto_region 8 with (first | (go_at_call 28; with_reducible refine (HC1.out _ HBC.out).mono ?_; rintro e w' ⟨rfl, hb⟩; replace HBC := Lib.hid (bs_st HBC.out hb); replace HZR := Lib.hid (HZR.out.below hb HZR.out.lt); clear hb) | (go_at_call 28; with_reducible refine (HC2.out _ HBC.out).mono ?_; rintro e w' ⟨rfl, hb⟩; replace HBC := Lib.hid (bs_st HBC.out hb); replace HZR := Lib.hid (HZR.out.below hb HZR.out.lt); clear hb) | (go_at_call 28; with_reducible refine (HC3.out _ HBC.out).mono ?_; rintro e w' ⟨rfl, hb⟩; replace HBC := Lib.hid (bs_st HBC.out hb); replace HZR := Lib.hid (HZR.out.below hb HZR.out.lt); clear hb) | (go_at_call 29; refine (HC4.out _ HBC.out).mono ?_; rintro e w5 ⟨ob, cb, rfl, ho, hb⟩; have HO := Lib.hid (ho.mono (show w.heap.size + 1 ≤ _ from HZR.out.lt)); replace HBC := Lib.hid (bs_st HBC.out hb); replace HZR := Lib.hid (HZR.out.below hb HZR.out.lt); clear hb ho) | (go_at_call 30; refine (HC5.out _ HBC.out).mono ?_; rintro e w7 ⟨rfl, hb⟩; replace HO := Lib.hid (HO.out.below hb); replace HBC := Lib.hid (bs_st HBC.out hb); replace HZR := Lib.hid (HZR.out.below hb HZR.out.lt); clear hb))
  clear HC1 HC2 HC3 HC4 HC5
  go_cut [18] (fun ov wx => ov = .bool o8 ∧ Below w7.heap.size w7 wx)
  case first =>
    rcases (show (ba = false) ∨ (ba = true ∧ bb = false) ∨ (ba = true ∧ bb = true ∧ bc = false) ∨ (ba = true ∧ bb = true ∧ bc = true ∧ bd = false) ∨ (ba = true ∧ bb = true ∧ bc = true ∧ bd = true ∧ mt = false) ∨ (ba = true ∧ bb = true ∧ bc = true ∧ bd = true ∧ mt = true ∧ s1 = false ∧ s2 = false) ∨ (ba = true ∧ bb = true ∧ bc = true ∧ bd = true ∧ mt = true ∧ s1 = true) ∨ (ba = true ∧ bb = true ∧ bc = true ∧ bd = true ∧ mt = true ∧ s1 = false ∧ s2 = true) from by cases ba <;> cases bb <;> cases bc <;> cases bd <;> cases mt <;> cases s1 <;> cases s2 <;> simp) with rfl | ⟨rfl, rfl⟩ | ⟨rfl, rfl, rfl⟩ | ⟨rfl, rfl, rfl, rfl⟩ | ⟨rfl, rfl, rfl, rfl, rfl⟩ | ⟨rfl, rfl, rfl, rfl, rfl, rfl, rfl⟩ | ⟨rfl, rfl, rfl, rfl, rfl, rfl⟩ | ⟨rfl, rfl, rfl, rfl, rfl, rfl, rfl⟩
    case inr.inr.inr.inr.inr.inr.inl | inr.inr.inr.inr.inr.inr.inr =>
      rcases (show h1 = false ∨ (h1 = true ∧ h2 = false) ∨ (h1 = true ∧ h2 = true) from by cases h1 <;> cases h2 <;> simp) with rfl | ⟨rfl, rfl⟩ | ⟨rfl, rfl⟩
      all_goals
        as_aux_lemma =>
          have HB8 := Lib.hid (Below.refl w7.heap.size w7)
          go_wp2_with (first | (go_at_call 31; refine (HMT.out _).mono ?_; rintro e w8 ⟨rfl, hb⟩; replace HB8 := Lib.hid (bs_st HB8.out hb); replace HBC := Lib.hid (bs_st HBC.out hb); clear hb) | (go_at_call 32; refine (HC8.out _ HBC.out).mono ?_; rintro e w8 ⟨v, rfl, ho, hb⟩; obtain ⟨orr, cr, rfl, hfr, _⟩ := ho.form; have HFR := Lib.hid hfr; clear hfr; replace HB8 := Lib.hid (bs_st HB8.out hb); replace HBC := Lib.hid (bs_st HBC.out hb); clear hb ho) | (go_at_call 13; refine (HC9.out _ _ _ HFR.out).mono ?_; rintro e w9 ⟨rfl, hw⟩; obtain rfl := hw))
          go_meet
          exact ⟨by rw [HOK8.out]; simp, HB8.out⟩
    all_goals
      as_aux_lemma =>
        have HB8 := Lib.hid (Below.refl w7.heap.size w7)
        go_wp2_with (first | (go_at_call 31; refine (HMT.out _).mono ?_; rintro e w8 ⟨rfl, hb⟩; replace HB8 := Lib.hid (bs_st HB8.out hb); replace HBC := Lib.hid (bs_st HBC.out hb); clear hb))
        go_meet
        exact ⟨by rw [HOK8.out]; simp, HB8.out⟩
  case rest =>
  obtain ⟨rfl, hb⟩ := hcut
  replace HO := Lib.hid (HO.out.below hb)
  replace HBC := Lib.hid (bs_st HBC.out hb)
  replace HZR := Lib.hid (HZR.out.below hb HZR.out.lt)
  clear hb HOK8 HC8 HC9 HMT hw3 e1 e1' e2' q1 q2
  obtain ⟨w8, hw8⟩ : ∃ w8, w8 = wc := ⟨wc, rfl⟩
  subst hw8
  obtain ⟨st, q3⟩ : ∃ b, (p.toList == [42]) = b := ⟨_, rfl⟩
  obtain ⟨op, q4⟩ : ∃ b, (m.toList == [79, 80, 84, 73, 79, 78, 83]) = b := ⟨_, rfl⟩
  obtain ⟨le, q5⟩ : ∃ b, decide (ln ≤ 0) = b := ⟨_, rfl⟩
  rw [q3, q4, q5] at HOK9
  obtain ⟨pe, q6⟩ : ∃ b, p.toList.isEmpty = b := ⟨_, rfl⟩
  obtain ⟨pp, h7⟩ : ∃ b, Lib.hasPrefix p.data.toList [47] = b := ⟨_, rfl⟩
  have HPE : Hid (pe = true → pp = false) := Lib.hid (by
    intro h
    rw [h] at q6
    rw [← h7, ← tl, show p.toList = [] from by simpa using q6]
    rfl)
  have HPN : Hid (pe = false → 0 < p.size) := Lib.hid (by
    intro h
    rw [h] at q6
    have : p.size ≠ 0 := fun h => by have := (isEmpty_iff p).2 h; rw [this] at q6; cases q6
    omega)
  have HPB : Hid (∀ h : 0 < p.size, ((p[0].toNat : Int) == 47) = pp) := Lib.hid (fun h => by rw [← slash_list p h, h7])
  rw [h7] at HOK9
  clear h7
  go_upto_region 9 with fail
  go_cut [18] (fun ov wx => ov = .bool o9 ∧ wx = w8)
  case first =>
    rcases (show (o8 = false ∧ (pe = false ∨ pe = true)) ∨ (o8 = true ∧ (en = false ∨ en = true ∧ le = false ∨ en = true ∧ le = true) ∧ ((pe = true ∧ (st = false ∨ st = true ∧ op = false ∨ st = true ∧ op = true)) ∨ (pe = false ∧ pp = true) ∨ (pe = false ∧ pp = false ∧ (st = false ∨ st = true ∧ op = false ∨ st = true ∧ op = true)))) from by cases o8 <;> cases en <;> cases le <;> cases pe <;> cases pp <;> cases st <;> cases op <;> simp) with ⟨rfl, rfl | rfl⟩ | ⟨rfl, (rfl | ⟨rfl, rfl⟩ | ⟨rfl, rfl⟩), (⟨rfl, rfl | ⟨rfl, rfl⟩ | ⟨rfl, rfl⟩⟩ | ⟨rfl, rfl⟩ | ⟨rfl, rfl, rfl | ⟨rfl, rfl⟩ | ⟨rfl, rfl⟩⟩)⟩
    all_goals
      as_aux_lemma =>
        (try have hpn := HPN.out rfl)
        (try have hpb := HPB.out hpn)
        (try obtain rfl := HPE.out rfl)
        go_wp2_with fail
        go_meet
        exact ⟨by rw [HOK9.out]; simp, rfl⟩
  case rest =>
  obtain ⟨rfl, hw⟩ := hcut
  subst hw
  clear q3 q4 q5 q6 HPE HPN HPB HOK9
  obtain ⟨_, _, e5, hsV, hcb⟩ := HO.out.form
  have HSV : Hid (StrsN wc ob V) := Lib.hid (by obtain ⟨rfl, _, rfl⟩ := Value.slice.inj e5; exact hsV)
  clear hsV e5 hcb
  go_wp2_with fail
  go_loopw [18, 19] (fun ov ii wr => ∃ j : Nat, ov = .bool (o9 && (V.take j).all (fun x => valS x.data.toList)) ∧ ii = .int .i64 j ∧ j ≤ nV ∧ wr = wc) (fun _ ii _ => nV - (intOf ii).toNat)
  case atStart => exact ⟨0, by simp, rfl, Nat.zero_le _, rfl⟩
  case round =>
    obtain ⟨j, rfl, rfl, hj, hw⟩ := hrel
    obtain rfl := hw.symm
    by_cases hlt : j < nV
    · have hw8 : IntKind.i64.wrap ((j : Int) + 1) = (j : Int) + 1 := IntWalk.i64_in _ (by omega)
      have q9 : decide ((j : Int) < (nV : Int)) = true := decide_eq_true (by omega)
      obtain ⟨x, hx⟩ : ∃ x, V[j]? = some x := ⟨V[j]'(by rw [HNV.out]; exact hlt), List.getElem?_eq_getElem _⟩
      obtain ⟨g, rfl, hc⟩ := HSV.out j x hx
      have hxs := HHS.out x (List.mem_of_getElem? hx)
      have HRV := Lib.hid (fun W => refValue_any x W (by unfold maxLen; omega))
      have HTK := Lib.hid (show (o9 && (V.take (j + 1)).all (fun x => valS x.data.toList)) = ((o9 && (V.take j).all (fun x => valS x.data.toList)) && valS x.data.toList) from by
        obtain ⟨hlj, hee⟩ := List.getElem?_eq_some_iff.1 hx
        rw [List.take_add_one, hx, List.all_append]
        simp [Bool.and_assoc])
      clear hx
      generalize (o9 && (V.take j).all (fun x => valS x.data.toList)) = bq at HTK
      generalize valS x.data.toList = bx at HTK HRV
      cases bq
      all_goals
        as_aux_lemma =>
          go_wp2_with (first | (go_at_call 33; with_reducible refine (HRV.out _).mono ?_; rintro e w' ⟨rfl, hw⟩; obtain rfl := hw))
          go_roundw
          case rel => exact ⟨j + 1, by rw [HTK.out]; simp, rfl, hlt, trivial⟩
          case measure => simp [intOf]; omega
    · obtain rfl : j = nV := by omega
      have q9 : decide ((j : Int) < (j : Int)) = false := by simp
      have HTE : Hid ((o9 && (V.take j).all (fun x => valS x.data.toList)) = oR) := Lib.hid (by rw [← HNV.out, List.take_length, HOKE.out])
      rw [HTE.out]
      clear HTE HOKE HSV HHS
      cases oR
      · have HRN : Hid (refR L en = none) := Lib.hid (by rw [HOKR.out]; rfl)
        go_wp2_with (first | (refine wpList_store_row rfl _ _ _ rfl w.heap.size #[.string ⟨#[]⟩, .string ⟨#[]⟩, .string ⟨#[]⟩, .string ⟨#[]⟩, .int .i64 0, .int .i64 0] rfl rfl _ _ HZR.out (by kernel_rfl) rfl (by kernel_rfl) ?_))
        exact bodyPost_ret (v := .tuple #[reqV none, .bool false]) (res_cell2 rfl _ _ w.heap.size _ _ (0, 0) _ rfl (setRow_heap _ _ _ _ _ _ HZR.out) Tryd.underlying29 rfl (by kernel_rfl) _ rfl) rfl ⟨by rw [HRN.out]; rfl, below_setRow HBC.out (Nat.le_refl _) _⟩
      · have HRY : Hid (refR L en = some ⟨m, s, p, hostV (V ++ X), ln, rankV Y, ⟨#[]⟩⟩) := Lib.hid (by rw [HOKR.out]; rfl)
        clear HOKR
        have HQ := Lib.hid (show QRow 29 (wc.alloc (.cells #[.string m, .string s, .string p, .string ⟨#[]⟩, .int .i64 ln, .int .i64 3] 29)) wc.heap.size m s p ⟨#[]⟩ ln 3 from heap_alloc_new wc _)
        have hb : Below wc.heap.size wc (wc.alloc (.cells #[.string m, .string s, .string p, .string ⟨#[]⟩, .int .i64 ln, .int .i64 3] 29)) := (Below.refl _ wc).alloc (Nat.le_refl _) _
        have HLT := Lib.hid HZR.out.lt
        have HOL := Lib.hid (fun q hq => World.ownsRow.lt HO.out q hq)
        replace HO := Lib.hid (HO.out.below hb)
        replace HBC := Lib.hid (bs_st HBC.out hb)
        replace HZR := Lib.hid (HZR.out.below hb HZR.out.lt)
        clear hb
        go_upto_region 17 with fail
        generalize (wc.alloc (.cells #[.string m, .string s, .string p, .string ⟨#[]⟩, .int .i64 ln, .int .i64 3] 29)) = w10 at HQ HO HBC HZR ⊢
        generalize wc.heap.size = g at HQ HLT HOL ⊢
        go_upto_region 18 with (first | (go_at_call 29; refine (HC6.out _ HBC.out).mono ?_; rintro e w11 ⟨ox, cx, rfl, ho, hb⟩; obtain ⟨_, _, e7, hs7, hc7⟩ := ho.form; have HSX : Hid (StrsN w11 ox X) := Lib.hid (by obtain ⟨rfl, _, rfl⟩ := Value.slice.inj e7; exact hs7); have HCX : Hid (X.length ≤ cx) := Lib.hid (by obtain ⟨rfl, _, rfl⟩ := Value.slice.inj e7; exact hc7); replace HO := Lib.hid (HO.out.below hb); replace HBC := Lib.hid (bs_st HBC.out hb); replace HZR := Lib.hid (HZR.out.below hb HZR.out.lt); replace HQ := Lib.hid (HQ.out.below hb HQ.out.lt); clear hb ho e7 hs7 hc7) | (at_builtin; refine wpList_appS rfl _ _ rfl (w.heap.size + 1) _ V rfl HO.out _ _ _ X rfl rfl HCX.out HSX.out ?_ (show w.heap.size + 1 ≤ _ from HZR.out.lt) ?_; (have := HNV.out; omega); intro v7 w12 ho7 hb7 hk7; replace HO := Lib.hid ho7; replace HBC := Lib.hid (HBC.out.trans (hb7.mono (by omega))); replace HZR := Lib.hid (HZR.out.below hb7 (by omega)); replace HQ : Hid (QRow 29 w12 g m s p ⟨#[]⟩ ln 3) := Lib.hid ((hk7 g HQ.out.lt (fun e => by have := (HOL.out g e).2; omega)).trans HQ.out); clear ho7 hb7 hk7))
        generalize hVX : V ++ X = H at HO HRY
        clear HSX HCX HOL HC6 HXS
        obtain ⟨oh, ch, e7, hsH, _⟩ := HO.out.form
        subst e7
        obtain ⟨nH, hnH⟩ : ∃ c, H.length = c := ⟨_, rfl⟩
        have hnH2 : nH ≤ 1000000 := (by have h1 := congrArg List.length hVX; rw [List.length_append] at h1; have := HNV.out; omega)
        rw [hnH] at HO
        rw [hnH]
        have HNH := Lib.hid hnH
        have HSH := Lib.hid hsH
        clear hnH hsH
        go_upto_if 145 with fail
        go_cut [] (fun wx => QRow 29 wx g m s p (hostV H) ln 3 ∧ QRow 29 wx w.heap.size ⟨#[]⟩ ⟨#[]⟩ ⟨#[]⟩ ⟨#[]⟩ 0 0 ∧ Below w.heap.size w wx)
        case first => as_aux_lemma =>
          by_cases hz : nH = 0
          · subst hz
            have HE : Hid (H = []) := Lib.hid (List.length_eq_zero_iff.1 HNH.out)
            go_wp2_with fail
            go_meet
            exact ⟨by rw [HE.out]; exact HQ.out, HZR.out, HBC.out⟩
          · have hpos : 0 < nH := by omega
            have q9 : decide ((0 : Int) < (nH : Int)) = true := decide_eq_true (by omega)
            obtain ⟨x, t, rfl⟩ : ∃ x t, H = x :: t := by
              cases H with
              | nil => exact absurd HNH.out (by simp; omega)
              | cons x t => exact ⟨x, t, rfl⟩
            obtain ⟨g7, rfl, hc⟩ := HSH.out 0 x rfl
            have hz3 := frozen_of_row _ g 3 _ _ HQ.out
            have hc3 := cell_of_row _ g 3 _ _ _ HQ.out
            have HQ8 : Hid (QRow 29 (w12.setCell ⟨g, 3, none⟩ (.string x)) g m s p x ln 3) := Lib.hid (heap_setCell_same w12 g 3 _ _ _ HQ.out)
            have HZ8 : Hid (QRow 29 (w12.setCell ⟨g, 3, none⟩ (.string x)) w.heap.size ⟨#[]⟩ ⟨#[]⟩ ⟨#[]⟩ ⟨#[]⟩ 0 0) := Lib.hid ((heap_setCell_other w12 ⟨g, 3, none⟩ w.heap.size (.string x) (by have := HLT.out; simp; omega)).trans HZR.out)
            have HB8 := Lib.hid (HBC.out.setCell (p := ⟨g, 3, none⟩) (by have := HLT.out; simp; omega) (.string x))
            go_wp2_with fail
            go_meet
            exact ⟨HQ8.out, HZ8.out, HB8.out⟩
        case rest =>
        obtain ⟨hq, hz, hbc⟩ := hcut
        replace HQ := Lib.hid hq
        replace HZR := Lib.hid hz
        replace HBC := Lib.hid hbc
        clear hq hz hbc HNH HSH HO
        obtain ⟨w13, hw13⟩ : ∃ w13, w13 = wc := ⟨wc, rfl⟩
        subst hw13
        go_upto_region 21 with (first | (go_at_call 29; refine (HC7.out _ HBC.out).mono ?_; rintro e w14 ⟨ox, cx, rfl, ho, hb⟩; obtain ⟨_, _, e7, hs7, hc7⟩ := ho.form; have HSX : Hid (StrsN w14 ox Y) := Lib.hid (by obtain ⟨rfl, _, rfl⟩ := Value.slice.inj e7; exact hs7); replace HBC := Lib.hid (bs_st HBC.out hb); replace HZR := Lib.hid (HZR.out.below hb HZR.out.lt); replace HQ := Lib.hid (HQ.out.below hb HQ.out.lt); clear hb ho e7 hs7 hc7))
        obtain ⟨nY, hnY⟩ : ∃ c, Y.length = c := ⟨_, rfl⟩
        rw [hnY] at hyl ⊢
        have HNY := Lib.hid hnY
        clear hnY
        generalize hostV H = hh at HQ HRY
        have c0 := cell_of_row _ g 0 _ _ _ HQ.out
        have c1 := cell_of_row _ g 1 _ _ _ HQ.out
        have c2 := cell_of_row _ g 2 _ _ _ HQ.out
        have c3 := cell_of_row _ g 3 _ _ _ HQ.out
        have c4 := cell_of_row _ g 4 _ _ _ HQ.out
        have c5 := cell_of_row _ g 5 _ _ _ HQ.out
        by_cases hz : nY = 0
        · subst hz
          have HE : Hid (Y = []) := Lib.hid (List.length_eq_zero_iff.1 HNY.out)
          have HRE : Hid (refR L en = some ⟨m, s, p, hh, ln, 3, ⟨#[]⟩⟩) := Lib.hid (by rw [HRY.out, HE.out]; rfl)
          go_wp2_with (first | (refine wpList_store_row rfl _ _ _ rfl w.heap.size #[.string m, .string s, .string p, .string hh, .int .i64 ln, .int .i64 3] rfl rfl _ _ HZR.out (by kernel_rfl) rfl (by kernel_rfl) ?_))
          exact bodyPost_ret (v := .tuple #[reqV (some ⟨m, s, p, hh, ln, 3, ⟨#[]⟩⟩), .bool true]) (res_cell2 rfl _ _ w.heap.size _ _ (0, 0) _ rfl (setRow_heap _ _ _ _ _ _ HZR.out) Tryd.underlying29 rfl (by kernel_rfl) _ rfl) rfl ⟨by rw [HRE.out]; rfl, below_setRow HBC.out (Nat.le_refl _) _⟩
        · have hpos : 0 < nY := by omega
          have q9 : decide ((0 : Int) < (nY : Int)) = true := decide_eq_true (by omega)
          obtain ⟨y, t, rfl⟩ : ∃ x t, Y = x :: t := by
            cases Y with
            | nil => exact absurd HNY.out (by simp; omega)
            | cons x t => exact ⟨x, t, rfl⟩
          obtain ⟨g7, rfl, hc⟩ := HSX.out 0 y rfl
          have hys := HYS.out y (by simp)
          have HRK := Lib.hid (fun W => refRank_any y (by omega) W)
          have HRE : Hid (refR L en = some ⟨m, s, p, hh, ln, rankS y.data.toList, ⟨#[]⟩⟩) := Lib.hid HRY.out
          generalize rankS y.data.toList = rk at HRK HRE
          have hz5 := frozen_of_row _ g 5 _ _ HQ.out
          have HZ8 : Hid (QRow 29 (w14.setCell ⟨g, 5, none⟩ (.int .i64 rk)) w.heap.size ⟨#[]⟩ ⟨#[]⟩ ⟨#[]⟩ ⟨#[]⟩ 0 0) := Lib.hid ((heap_setCell_other w14 ⟨g, 5, none⟩ w.heap.size (.int .i64 rk) (by have := HLT.out; simp; omega)).trans HZR.out)
          have HB8 := Lib.hid (HBC.out.setCell (p := ⟨g, 5, none⟩) (by have := HLT.out; simp; omega) (.int .i64 rk))
          go_wp2_with (first | (go_at_call 19; with_reducible refine (HRK.out _).mono ?_; rintro e w' ⟨rfl, hw⟩; obtain rfl := hw) | (refine wpList_store_row rfl _ _ _ rfl w.heap.size #[.string m, .string s, .string p, .string hh, .int .i64 ln, .int .i64 rk] rfl rfl _ _ HZ8.out (by kernel_rfl) rfl (by kernel_rfl) ?_))
          exact bodyPost_ret (v := .tuple #[reqV (some ⟨m, s, p, hh, ln, rk, ⟨#[]⟩⟩), .bool true]) (res_cell2 rfl _ _ w.heap.size _ _ (0, 0) _ rfl (setRow_heap _ _ _ _ _ _ HZ8.out) Tryd.underlying29 rfl (by kernel_rfl) _ rfl) rfl ⟨by rw [HRE.out]; rfl, below_setRow HB8.out (Nat.le_refl _) _⟩
end Go.Proofs.YtecmccihldjicaaDoor
