/- awake of the request laws. (printed by gen_reqawake.py) -/
import Derived.Test.YtecmccihldjicaaDoorReqR
namespace Go.Proofs.YtecmccihldjicaaDoor
open Go.RowKit
set_option linter.unusedVariables false
set_option linter.unusedSimpArgs false

theorem run_append_keep {P : Program} (w : World) (base : Nat) (t ty e : TypeId) (i : TypeInfo) (z : Value) (size bytes : Nat) (ht : P.underlying t = some (.slice e)) (hi : P.info? e = some i) (hz : i.zero = some z)
    (hsize : i.size = size) (hby : i.bytes = bytes) (hzs : z.cells.size = size) (hsz : 0 < size) (g cap n : Nat) (xs : List Value) (hown : w.ownsRow base e size (.slice (some ⟨g, 0, none⟩) n cap) n xs)
    (a : Addr) (m c : Nat) (news : List Value) (hl : news.length = m * size) (hnews : ∀ j u, news[j]? = some u → w.cell? (a.add j) = some u) (h1 : ∀ u ∈ news, u.oneCell' = true)
    (h63 : n + m ≤ maxLen) (hbytes : (n + m) * bytes ≤ 140737488355328) (hbase : base ≤ w.heap.size) :
    ∃ v' w', (Builtin.append_ #[t, t] ty #[.slice (some ⟨g, 0, none⟩) n cap, .slice (some a) m c]).run P w = .ok v' w' ∧ w'.ownsRow base e size v' (n + m) (xs ++ news) ∧ w.grownBy w' (some g) ∧ w'.ownsRow base e size (.slice (some ⟨g, 0, none⟩) n cap) n xs := by
  obtain ⟨v', w', hr, h2, h3, _, _⟩ := run_append_own_at (P := P) w base t ty e i z size bytes ht hi hz hsize hby hzs hsz _ n xs hown a m c news hl hnews h1 h63 hbytes hbase
  refine ⟨v', w', hr, h2, h3, hown.1, ?_⟩
  rcases hown.2 with ⟨hv, _⟩ | ⟨g', cap', cur, hv, hbg, hg, hnc, hcm, hcs, htake⟩
  · cases hv
  obtain ⟨rfl, rfl⟩ : g = g' ∧ cap = cap' := by simpa using hv
  subst hsize
  by_cases hroom : n + m ≤ cap
  · have hfit : n * i.size + news.length ≤ cur.size := by rw [hl, hcs, ← Nat.add_mul]; exact Nat.mul_le_mul_right _ hroom
    have hr2 := run_append_room (P := P) w t ty e i ht hi g n cap cur hg a m c news hl hnews h1 hroom hfit
    rw [hr] at hr2
    injection hr2 with _ hw
    subst hw
    refine .inr ⟨g, cap, _, rfl, hbg, setRow_heap w g cur _ e _ hg, hnc, hcm, ?_, ?_⟩
    · have hcl : cur.toList.length = cur.size := Array.length_toList
      simp only [List.size_toArray, List.length_append, List.length_take, List.length_drop, hcl]
      omega
    · rw [htake, List.append_assoc, ← hown.1]
      exact List.take_left
  · have hr2 := run_append_grow (P := P) w t ty e i z ht hi hz ⟨g, 0, none⟩ n cap xs hown.1 (hown.cells (g := g) rfl) a m c news hl hnews (by omega) (by unfold maxLen at h63; omega) (growslice_fits (by omega) (by rw [hby]; exact hbytes))
    rw [hr] at hr2
    injection hr2 with _ hw
    subst hw
    exact (World.ownsRow.alloc (w := w.drew) ⟨hown.1, hown.2⟩ _).2
theorem wpList_append_keep {P : Program} {w : World} {ops : Array Oper} {rest : List Oper} {o : Oper} {a : Act} {Q : Exit → Act → World → Prop} (hgd : o.guard = none) (s x : Operand) (t : TypeId)
    (ho : o.op = .call { callee := .builtin .append, args := #[s, x], argTypes := #[t, t] })
    (base : Nat) (e : TypeId) (i : TypeInfo) (z : Value) (size bytes : Nat) (ht : P.underlying t = some (.slice e)) (hi : P.info? e = some i) (hz : i.zero = some z)
    (hsize : i.size = size) (hby : i.bytes = bytes) (hzs : z.cells.size = size) (hsz : 0 < size)
    (g cap n : Nat) (xs : List Value) (hs : a.eval s = .slice (some ⟨g, 0, none⟩) n cap) (hown : w.ownsRow base e size (.slice (some ⟨g, 0, none⟩) n cap) n xs)
    (ad : Addr) (m c : Nat) (news : List Value) (hx : a.eval x = .slice (some ad) m c) (hl : news.length = m * size) (hnews : ∀ j u, news[j]? = some u → w.cell? (ad.add j) = some u) (h1 : ∀ u ∈ news, u.oneCell' = true)
    (h63 : n + m ≤ maxLen) (hbytes : (n + m) * bytes ≤ 140737488355328) (hbase : base ≤ w.heap.size)
    (h : ∀ v' w', w'.ownsRow base e size v' (n + m) (xs ++ news) → w.grownBy w' (some g) → w'.ownsRow base e size (.slice (some ⟨g, 0, none⟩) n cap) n xs → wpList P ops Q rest (a.put o.dst v') w') :
    wpList P ops Q (o :: rest) a w := by
  refine wpList_plain hgd fun K hK => ?_
  obtain ⟨v', w', hr, h2, h3, h4⟩ := run_append_keep (P := P) w base t o.type e i z size bytes ht hi hz hsize hby hzs hsz g cap n xs hown ad m c news hl hnews h1 h63 hbytes hbase
  unfold Oper.wp execOp
  simp only [ho, resolve, invoke, builtin, Sem.run_bind, Sem.run_pure, Result.andThen_ok, List.map_toArray, List.map_cons, List.map_nil, hs, hx, hr]
  exact hK _ _ (h v' w' h2 h3 h4)

def awL : List Fld := [⟨⟨#[58, 109, 101, 116, 104, 111, 100]⟩, ⟨#[71, 69, 84]⟩, false⟩, ⟨⟨#[58, 115, 99, 104, 101, 109, 101]⟩, ⟨#[104, 116, 116, 112, 115]⟩, false⟩, ⟨⟨#[58, 112, 97, 116, 104]⟩, ⟨#[47]⟩, false⟩, ⟨⟨#[104, 111, 115, 116]⟩, ⟨#[97]⟩, false⟩, ⟨⟨#[112, 114, 105, 111, 114, 105, 116, 121]⟩, ⟨#[117, 61, 49, 44, 32, 105]⟩, false⟩]
def awF0 : Fld := ⟨⟨#[58, 109, 101, 116, 104, 111, 100]⟩, ⟨#[71, 69, 84]⟩, false⟩
def awX : Fld := ⟨⟨#[88]⟩, ⟨#[121]⟩, false⟩
theorem aw_read0 : reqV (readS awL true) = .agg #[.string ⟨#[71, 69, 84]⟩, .string ⟨#[104, 116, 116, 112, 115]⟩, .string ⟨#[47]⟩, .string ⟨#[97]⟩, .int .i64 (-1), .int .i64 1] ∧ (readS awL true).isSome = true := by as_aux_lemma => exact ⟨by kernel_rfl, by kernel_rfl⟩
theorem aw_read1 : reqV (readS (awL ++ [awF0]) true) = .agg #[.string ⟨#[]⟩, .string ⟨#[]⟩, .string ⟨#[]⟩, .string ⟨#[]⟩, .int .i64 0, .int .i64 0] ∧ (readS (awL ++ [awF0]) true).isSome = false := by as_aux_lemma => exact ⟨by kernel_rfl, by kernel_rfl⟩
theorem aw_read2 : reqV (readS (awL ++ [awX]) true) = .agg #[.string ⟨#[]⟩, .string ⟨#[]⟩, .string ⟨#[]⟩, .string ⟨#[]⟩, .int .i64 0, .int .i64 0] ∧ (readS (awL ++ [awX]) true).isSome = false := by as_aux_lemma => exact ⟨by kernel_rfl, by kernel_rfl⟩
theorem aw_read3 : reqV (readS (awL.drop 1) true) = .agg #[.string ⟨#[]⟩, .string ⟨#[]⟩, .string ⟨#[]⟩, .string ⟨#[]⟩, .int .i64 0, .int .i64 0] ∧ (readS (awL.drop 1) true).isSome = false := by as_aux_lemma => exact ⟨by kernel_rfl, by kernel_rfl⟩
theorem aw_num : numI [49, 50, 48] = 120 ∧ numOk [49, 50, 48] = true ∧ numI [48, 49, 50] = 0 ∧ numOk [48, 49, 50] = false := by decide +kernel
theorem aw_tok : nameS false [120, 45, 97] = true ∧ nameS false [88] = false := by decide +kernel
theorem aw_rank : rankS [117, 61, 53] = 5 ∧ rankS [117, 61, 56] = 3 := by decide +kernel
theorem aw_tr : trailB (awL.drop 3) = true ∧ trailB (awL.take 1) = false := by as_aux_lemma => exact ⟨by kernel_rfl, by kernel_rfl⟩
theorem aw_len : (fieldsQ ⟨#[71, 69, 84]⟩ ⟨#[104, 116, 116, 112, 115]⟩ ⟨#[47]⟩ ⟨#[97]⟩ (-1) 1).length = 5 := by kernel_rfl

/-- What stands all through: the list, the first answer. -/
structure Aw (w W : World) (gq : Nat) : Prop where
  own : OwnF W w.heap.size (.slice (some ⟨w.heap.size, 0, none⟩) 5 5) awL
  row : QRow 26 W gq ⟨#[71, 69, 84]⟩ ⟨#[104, 116, 116, 112, 115]⟩ ⟨#[47]⟩ ⟨#[97]⟩ (-1) 1
  lt : w.heap.size < gq
  below : Below w.heap.size w W
theorem Aw.step {w W W' : World} {gq : Nat} (h : Aw w W gq) (hb : Below W.heap.size W W') : Aw w W' gq :=
  ⟨h.own.step hb, h.row.below hb h.row.lt, h.lt, h.below.trans (hb.mono h.below.size)⟩
theorem Aw.app {w W W' : World} {gq : Nat} {o : Obj} (h : Aw w W gq) (hg : (W.alloc o).grownBy W' (some w.heap.size)) (ho : OwnF W' w.heap.size (.slice (some ⟨w.heap.size, 0, none⟩) 5 5) awL) : Aw w W' gq := by
  have h1 := h.step ((Below.refl _ W).alloc (Nat.le_refl _) o)
  refine ⟨ho, (hg.block gq h1.row.lt (fun e => ?_)).trans h1.row, h.lt, h1.below.grown hg h1.below.size (fun k hk => ?_)⟩
  · injection e with e; have := h.lt; omega
  · injection hk with hk; omega
theorem Aw.fields {w W : World} {gq : Nat} (h : Aw w W gq) : FieldsN W (some ⟨w.heap.size, 0, none⟩) awL := by
  obtain ⟨oa, cap, e, hf, _⟩ := h.own.form
  obtain ⟨rfl, _, rfl⟩ := Value.slice.inj e
  exact hf
theorem Aw.fieldsD {w W : World} {gq : Nat} (h : Aw w W gq) (k : Nat) : FieldsN W (some ⟨w.heap.size, k * 3, none⟩) (awL.drop k) := by
  have := FieldsN.drop (k := k) h.fields
  simpa using this
theorem aw_light : awL.all lightF = true ∧ (awL ++ [awF0]).all lightF = true ∧ (awL ++ [awX]).all lightF = true ∧ (awL.drop 1).all lightF = true ∧ (awL.drop 3).all lightF = true ∧ (awL.take 1).all lightF = true := by as_aux_lemma => exact ⟨by kernel_rfl, by kernel_rfl, by kernel_rfl, by kernel_rfl, by kernel_rfl, by kernel_rfl⟩
/-- Behind a call that makes memory, and a new block for its answer. -/
def ReadC (n : Nat) (L : List Fld) (V : Value) (b : Bool) : Prop := ∀ (oa : Option Addr) (cap : Nat) (W : World), FieldsN W oa L → MaxC W → Calls Tryd.prog 10 #[.slice oa n cap, .bool true] W fun e w' => e = .returned (.tuple #[V, .bool b]) ∧ Below W.heap.size W w'
theorem readC {n : Nat} {L : List Fld} {V : Value} {b : Bool} (hn : L.length = n) (hn2 : n ≤ 100) (hl : L.all lightF = true) (h : reqV (readS L true) = V ∧ (readS L true).isSome = b) : ReadC n L V b := by
  intro oa cap W hf hM
  have := read_any oa n cap L hn hn2 hl true W hf hM
  rw [h.1, h.2] at this
  exact this
set_option maxRecDepth 100000 in
set_option maxHeartbeats 16000000 in
theorem awake17_any (w : World) (hT : Tab w) (hM : MaxC w) : Calls Tryd.prog 9 #[] w fun e w' => e = .returned (.bool true) ∧ Below w.heap.size w w' := by
  obtain ⟨i0, hi0, hz0, hz1, hz2⟩ := info_parts field_info
  have HI := Lib.hid hi0
  have HZ0 := Lib.hid hz0
  have HZ1 := Lib.hid hz1
  have HZ2 := Lib.hid hz2
  have HTW := Lib.hid (show ∀ W, Below w.heap.size w W → Tab W from fun W hW => hT.below hW)
  have HMW := Lib.hid (show ∀ W, Below w.heap.size w W → MaxC W from fun W hW => hM.below hW)
  have HONE := Lib.hid (show ∀ (a b : ByteArray), ∀ u ∈ [Value.string a, .string b, .bool false], u.oneCell' = true from by intro a b u hu; simp at hu; rcases hu with rfl | rfl | rfl <;> rfl)
  have HSZ := Lib.hid (show ∀ (wx : World) (o : Obj), w.heap.size ≤ wx.heap.size → w.heap.size ≤ (wx.alloc o).heap.size from by intro wx o h; simp; omega)
  obtain ⟨l0, l1, l2, l3, l4, l5⟩ := aw_light
  have C0 := Lib.hid (readC (n := 5) rfl (by omega) l0 aw_read0)
  have C1 := Lib.hid (readC (n := 6) rfl (by omega) l1 aw_read1)
  have C2 := Lib.hid (readC (n := 6) rfl (by omega) l2 aw_read2)
  have C3 := Lib.hid (readC (n := 4) rfl (by omega) l3 aw_read3)
  have CT1 := Lib.hid (fun oa cap W hf => trailers_any oa 2 cap (awL.drop 3) rfl (by omega) l4 W hf)
  have CT2 := Lib.hid (fun oa cap W hf => trailers_any oa 1 cap (awL.take 1) rfl (by omega) l5 W hf)
  rw [aw_tr.1] at CT1
  rw [aw_tr.2] at CT2
  have CN1 := Lib.hid (show ∀ W, Calls Tryd.prog 14 #[.string ⟨#[49, 50, 48]⟩] W (fun e w' => e = .returned (.tuple #[.int .i64 120, .bool true]) ∧ Below W.heap.size W w') from fun W => by have := reqNumber ⟨#[49, 50, 48]⟩ W (by decide); rw [show (ByteArray.mk #[49, 50, 48]).data.toList = [49, 50, 48] from rfl, aw_num.1, aw_num.2.1] at this; exact this)
  have CN2 := Lib.hid (show ∀ W, Calls Tryd.prog 14 #[.string ⟨#[48, 49, 50]⟩] W (fun e w' => e = .returned (.tuple #[.int .i64 0, .bool false]) ∧ Below W.heap.size W w') from fun W => by have := reqNumber ⟨#[48, 49, 50]⟩ W (by decide); rw [show (ByteArray.mk #[48, 49, 50]).data.toList = [48, 49, 50] from rfl, aw_num.2.2.1, aw_num.2.2.2] at this; exact this)
  have CK1 := Lib.hid (show ∀ W, Calls Tryd.prog 16 #[.string ⟨#[120, 45, 97]⟩] W (fun e w' => e = .returned (.bool true) ∧ Below W.heap.size W w') from fun W => by have := token_any ⟨#[120, 45, 97]⟩ W (by decide); rw [show (ByteArray.mk #[120, 45, 97]).data.toList = [120, 45, 97] from rfl, aw_tok.1] at this; exact this)
  have CK2 := Lib.hid (show ∀ W, Calls Tryd.prog 16 #[.string ⟨#[88]⟩] W (fun e w' => e = .returned (.bool false) ∧ Below W.heap.size W w') from fun W => by have := token_any ⟨#[88]⟩ W (by decide); rw [show (ByteArray.mk #[88]).data.toList = [88] from rfl, aw_tok.2] at this; exact this)
  have CR1 := Lib.hid (show ∀ W, MaxC W → Calls Tryd.prog 18 #[.string ⟨#[117, 61, 53]⟩] W (fun e w' => e = .returned (.int .i64 5) ∧ Below W.heap.size W w') from fun W hW => by have := rank_any ⟨#[117, 61, 53]⟩ (by decide) W hW; rw [show (ByteArray.mk #[117, 61, 53]).data.toList = [117, 61, 53] from rfl, aw_rank.1] at this; exact this)
  have CR2 := Lib.hid (show ∀ W, MaxC W → Calls Tryd.prog 18 #[.string ⟨#[117, 61, 56]⟩] W (fun e w' => e = .returned (.int .i64 3) ∧ Below W.heap.size W w') from fun W hW => by have := rank_any ⟨#[117, 61, 56]⟩ (by decide) W hW; rw [show (ByteArray.mk #[117, 61, 56]).data.toList = [117, 61, 56] from rfl, aw_rank.2] at this; exact this)
  have CF := Lib.hid (fun W hW => fields_any ⟨#[71, 69, 84]⟩ ⟨#[104, 116, 116, 112, 115]⟩ ⟨#[47]⟩ ⟨#[97]⟩ (-1) 1 (by omega) (by omega) (by omega) W hW)

  have HOW := Lib.hid (show OwnF (w.alloc (.cells #[.string ⟨#[58, 109, 101, 116, 104, 111, 100]⟩, .string ⟨#[71, 69, 84]⟩, .bool false, .string ⟨#[58, 115, 99, 104, 101, 109, 101]⟩, .string ⟨#[104, 116, 116, 112, 115]⟩, .bool false, .string ⟨#[58, 112, 97, 116, 104]⟩, .string ⟨#[47]⟩, .bool false, .string ⟨#[104, 111, 115, 116]⟩, .string ⟨#[97]⟩, .bool false, .string ⟨#[112, 114, 105, 111, 114, 105, 116, 121]⟩, .string ⟨#[117, 61, 49, 44, 32, 105]⟩, .bool false] 42)) w.heap.size (.slice (some ⟨w.heap.size, 0, none⟩) 5 5) awL from World.ownsRow_lit (e := 42) (size := 3) (base := w.heap.size) w #[.string ⟨#[58, 109, 101, 116, 104, 111, 100]⟩, .string ⟨#[71, 69, 84]⟩, .bool false, .string ⟨#[58, 115, 99, 104, 101, 109, 101]⟩, .string ⟨#[104, 116, 116, 112, 115]⟩, .bool false, .string ⟨#[58, 112, 97, 116, 104]⟩, .string ⟨#[47]⟩, .bool false, .string ⟨#[104, 111, 115, 116]⟩, .string ⟨#[97]⟩, .bool false, .string ⟨#[112, 114, 105, 111, 114, 105, 116, 121]⟩, .string ⟨#[117, 61, 49, 44, 32, 105]⟩, .bool false] 5 (Nat.le_refl _) (by decide) rfl)
  have HB0 := Lib.hid ((Below.refl w.heap.size w).alloc (Nat.le_refl _) (.cells #[.string ⟨#[58, 109, 101, 116, 104, 111, 100]⟩, .string ⟨#[71, 69, 84]⟩, .bool false, .string ⟨#[58, 115, 99, 104, 101, 109, 101]⟩, .string ⟨#[104, 116, 116, 112, 115]⟩, .bool false, .string ⟨#[58, 112, 97, 116, 104]⟩, .string ⟨#[47]⟩, .bool false, .string ⟨#[104, 111, 115, 116]⟩, .string ⟨#[97]⟩, .bool false, .string ⟨#[112, 114, 105, 111, 114, 105, 116, 121]⟩, .string ⟨#[117, 61, 49, 44, 32, 105]⟩, .bool false] 42))
  have HLT0 : Hid (w.heap.size < (w.alloc (.cells #[.string ⟨#[58, 109, 101, 116, 104, 111, 100]⟩, .string ⟨#[71, 69, 84]⟩, .bool false, .string ⟨#[58, 115, 99, 104, 101, 109, 101]⟩, .string ⟨#[104, 116, 116, 112, 115]⟩, .bool false, .string ⟨#[58, 112, 97, 116, 104]⟩, .string ⟨#[47]⟩, .bool false, .string ⟨#[104, 111, 115, 116]⟩, .string ⟨#[97]⟩, .bool false, .string ⟨#[112, 114, 105, 111, 114, 105, 116, 121]⟩, .string ⟨#[117, 61, 49, 44, 32, 105]⟩, .bool false] 42)).heap.size) := Lib.hid (by simp)
  clear hi0 hz0 hz1 hz2 hT hM l0 l1 l2 l3 l4 l5
  go_enter Tryd.func9, Tryd.ntmps9
  go_upto_region 2 with fail
  generalize (w.alloc (.cells #[.string ⟨#[58, 109, 101, 116, 104, 111, 100]⟩, .string ⟨#[71, 69, 84]⟩, .bool false, .string ⟨#[58, 115, 99, 104, 101, 109, 101]⟩, .string ⟨#[104, 116, 116, 112, 115]⟩, .bool false, .string ⟨#[58, 112, 97, 116, 104]⟩, .string ⟨#[47]⟩, .bool false, .string ⟨#[104, 111, 115, 116]⟩, .string ⟨#[97]⟩, .bool false, .string ⟨#[112, 114, 105, 111, 114, 105, 116, 121]⟩, .string ⟨#[117, 61, 49, 44, 32, 105]⟩, .bool false] 42)) = w1 at HOW HB0 HLT0 ⊢
  have HF0 : Hid (FieldsN w1 (some ⟨w.heap.size, 0, none⟩) awL) := Lib.hid (by obtain ⟨oa, cap, e, hf, _⟩ := HOW.out.form; obtain ⟨rfl, _, rfl⟩ := Value.slice.inj e; exact hf)
  go_upto_region 3 with (first | (go_at_call 10; refine (C0.out _ _ _ HF0.out (HMW.out _ HB0.out)).mono ?_; rintro e wn ⟨rfl, hb⟩; have HBn := Lib.hid hb; clear hb))
  have HA : Hid (Aw w (wn.alloc (.cells #[.string ⟨#[71, 69, 84]⟩, .string ⟨#[104, 116, 116, 112, 115]⟩, .string ⟨#[47]⟩, .string ⟨#[97]⟩, .int .i64 (-1), .int .i64 1] 26)) wn.heap.size) := Lib.hid (by
    have hb := HBn.out
    have hs := hb.size
    have hb2 : Below wn.heap.size wn (wn.alloc (.cells #[.string ⟨#[71, 69, 84]⟩, .string ⟨#[104, 116, 116, 112, 115]⟩, .string ⟨#[47]⟩, .string ⟨#[97]⟩, .int .i64 (-1), .int .i64 1] 26)) := (Below.refl _ _).alloc (Nat.le_refl _) _
    exact ⟨(HOW.out.step hb).step hb2, heap_alloc_new wn _, by have := HLT0.out; omega, HB0.out.trans ((hb.trans (hb2.mono hs)).mono HB0.out.size)⟩)
  generalize wn.alloc (.cells #[.string ⟨#[71, 69, 84]⟩, .string ⟨#[104, 116, 116, 112, 115]⟩, .string ⟨#[47]⟩, .string ⟨#[97]⟩, .int .i64 (-1), .int .i64 1] 26) = w2 at HA ⊢
  generalize wn.heap.size = gq at HA ⊢
  clear HBn HF0 HOW HB0 HLT0
  obtain ⟨b3, o3, e3, x0, x1, x2⟩ := HA.out.fields 0 awF0 rfl
  injection e3 with e3
  injection e3 with e3 e4
  subst e3 e4
  go_upto_region 4 with (first | (at_builtin; refine wpList_append_keep rfl _ _ 22 rfl w.heap.size 42 i0 _ 3 40 Tryd.underlying22 HI.out HZ0.out HZ1.out HZ2.out rfl (by omega) w.heap.size 5 5 (fcells awL) rfl (World.ownsRow.alloc HA.out.own _) ⟨w2.heap.size, 0, none⟩ 1 1 [Value.string ⟨#[58, 109, 101, 116, 104, 111, 100]⟩, .string ⟨#[71, 69, 84]⟩, .bool false] rfl rfl (cells_new w2 [Value.string ⟨#[58, 109, 101, 116, 104, 111, 100]⟩, .string ⟨#[71, 69, 84]⟩, .bool false] _) (HONE.out _ _) (by decide) (by decide) (HSZ.out _ _ HA.out.below.size) ?_; intro v7 w7 hown7 hg7 hk7; have HO7 := Lib.hid (show OwnF w7 w.heap.size v7 (awL ++ [awF0]) from hown7); replace HA := Lib.hid (HA.out.app hg7 hk7); obtain ⟨o7, c7, hv7, hf7, _⟩ := HO7.out.form; obtain rfl := hv7; have HF7 := Lib.hid hf7; clear hown7 hg7 hk7 hf7) | (go_at_call 10; refine (C1.out _ _ _ HF7.out (HMW.out _ HA.out.below)).mono ?_; rintro e wn ⟨rfl, hb⟩; replace HA := Lib.hid (HA.out.step hb); clear hb))
  clear x0 x1 x2 HF7 HO7
  replace HA := Lib.hid (HA.out.step ((Below.refl _ wn).alloc (Nat.le_refl _) (.cells #[.string ⟨#[]⟩, .string ⟨#[]⟩, .string ⟨#[]⟩, .string ⟨#[]⟩, .int .i64 0, .int .i64 0] 26)))
  generalize wn.alloc (.cells #[.string ⟨#[]⟩, .string ⟨#[]⟩, .string ⟨#[]⟩, .string ⟨#[]⟩, .int .i64 0, .int .i64 0] 26) = w3 at HA ⊢
  go_upto_region 5 with (first | (at_builtin; refine wpList_append_keep rfl _ _ 22 rfl w.heap.size 42 i0 _ 3 40 Tryd.underlying22 HI.out HZ0.out HZ1.out HZ2.out rfl (by omega) w.heap.size 5 5 (fcells awL) rfl (World.ownsRow.alloc HA.out.own _) ⟨w3.heap.size, 0, none⟩ 1 1 [Value.string ⟨#[88]⟩, .string ⟨#[121]⟩, .bool false] rfl rfl (cells_new w3 [Value.string ⟨#[88]⟩, .string ⟨#[121]⟩, .bool false] _) (HONE.out _ _) (by decide) (by decide) (HSZ.out _ _ HA.out.below.size) ?_; intro v7 w7 hown7 hg7 hk7; have HO7 := Lib.hid (show OwnF w7 w.heap.size v7 (awL ++ [awX]) from hown7); replace HA := Lib.hid (HA.out.app hg7 hk7); obtain ⟨o7, c7, hv7, hf7, _⟩ := HO7.out.form; obtain rfl := hv7; have HF7 := Lib.hid hf7; clear hown7 hg7 hk7 hf7) | (go_at_call 10; refine (C2.out _ _ _ HF7.out (HMW.out _ HA.out.below)).mono ?_; rintro e wm ⟨rfl, hb⟩; replace HA := Lib.hid (HA.out.step hb); clear hb))
  clear HF7 HO7
  replace HA := Lib.hid (HA.out.step ((Below.refl _ wm).alloc (Nat.le_refl _) (.cells #[.string ⟨#[]⟩, .string ⟨#[]⟩, .string ⟨#[]⟩, .string ⟨#[]⟩, .int .i64 0, .int .i64 0] 26)))
  generalize wm.alloc (.cells #[.string ⟨#[]⟩, .string ⟨#[]⟩, .string ⟨#[]⟩, .string ⟨#[]⟩, .int .i64 0, .int .i64 0] 26) = w4 at HA ⊢
  go_upto_region 6 with (first | (go_at_call 10; refine (C3.out _ _ _ (HA.out.fieldsD 1) (HMW.out _ HA.out.below)).mono ?_; rintro e wl ⟨rfl, hb⟩; replace HA := Lib.hid (HA.out.step hb); clear hb))
  replace HA := Lib.hid (HA.out.step ((Below.refl _ wl).alloc (Nat.le_refl _) (.cells #[.string ⟨#[]⟩, .string ⟨#[]⟩, .string ⟨#[]⟩, .string ⟨#[]⟩, .int .i64 0, .int .i64 0] 26)))
  generalize wl.alloc (.cells #[.string ⟨#[]⟩, .string ⟨#[]⟩, .string ⟨#[]⟩, .string ⟨#[]⟩, .int .i64 0, .int .i64 0] 26) = w5 at HA ⊢
  go_upto_region 8 with (first | (go_at_call 14; with_reducible refine (CN1.out _).mono ?_; rintro e wa ⟨rfl, hb⟩; replace HA := Lib.hid (HA.out.step hb); clear hb) | (go_at_call 14; with_reducible refine (CN2.out _).mono ?_; rintro e wb ⟨rfl, hb⟩; replace HA := Lib.hid (HA.out.step hb); clear hb))
  have y0 := cell_of_row _ gq 0 _ _ _ HA.out.row
  have y1 := cell_of_row _ gq 1 _ _ _ HA.out.row
  have y2 := cell_of_row _ gq 2 _ _ _ HA.out.row
  have y3 := cell_of_row _ gq 3 _ _ _ HA.out.row
  have y4 := cell_of_row _ gq 4 _ _ _ HA.out.row
  have y5 := cell_of_row _ gq 5 _ _ _ HA.out.row
  go_wp2_with (first | (go_at_call 16; with_reducible refine (CK1.out _).mono ?_; rintro e wc ⟨rfl, hb⟩; replace HA := Lib.hid (HA.out.step hb); clear hb) | (go_at_call 16; with_reducible refine (CK2.out _).mono ?_; rintro e wd ⟨rfl, hb⟩; replace HA := Lib.hid (HA.out.step hb); clear hb) | (go_at_call 18; with_reducible refine (CR1.out _ (HMW.out _ HA.out.below)).mono ?_; rintro e we ⟨rfl, hb⟩; replace HA := Lib.hid (HA.out.step hb); clear hb) | (go_at_call 18; with_reducible refine (CR2.out _ (HMW.out _ HA.out.below)).mono ?_; rintro e wf ⟨rfl, hb⟩; replace HA := Lib.hid (HA.out.step hb); clear hb) | (go_at_call 12; with_reducible refine (CT1.out _ _ _ (HA.out.fieldsD 3)).mono ?_; rintro e wg ⟨rfl, hb⟩; replace HA := Lib.hid (HA.out.step hb); clear hb) | (go_at_call 12; refine (CT2.out _ _ _ (FieldsN.take (k := 1) HA.out.fields)).mono ?_; rintro e wh ⟨rfl, hb⟩; replace HA := Lib.hid (HA.out.step hb); clear hb; have y0 := cell_of_row _ gq 0 _ _ _ HA.out.row; have y1 := cell_of_row _ gq 1 _ _ _ HA.out.row; have y2 := cell_of_row _ gq 2 _ _ _ HA.out.row; have y3 := cell_of_row _ gq 3 _ _ _ HA.out.row; have y4 := cell_of_row _ gq 4 _ _ _ HA.out.row; have y5 := cell_of_row _ gq 5 _ _ _ HA.out.row) | (go_at_call 21; refine (CF.out _ (HTW.out _ HA.out.below)).mono ?_; rintro e wi ⟨v, rfl, ho, hb⟩; replace HA := Lib.hid (HA.out.step hb); obtain ⟨o7, c7, hv7, _⟩ := ho.form; rw [aw_len] at hv7; obtain rfl := hv7; clear hb ho))
  go_ret
  exact ⟨rfl, HA.out.below⟩
#print axioms awake17_any
end Go.Proofs.YtecmccihldjicaaDoor
