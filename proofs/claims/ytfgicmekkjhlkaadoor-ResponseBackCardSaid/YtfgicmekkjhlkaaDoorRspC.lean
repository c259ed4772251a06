/- response.Fields, and the document's. -/
import Derived.Test.YtfgicmekkjhlkaaDoorRspA
import Derived.Deep.Cut
namespace Go.Proofs.YtfgicmekkjhlkaaDoor
open Go.RowKit
set_option linter.unusedVariables false
set_option linter.unusedSimpArgs false

def stS : ByteArray := ⟨#[58, 115, 116, 97, 116, 117, 115]⟩
def clS : ByteArray := ⟨#[99, 111, 110, 116, 101, 110, 116, 45, 108, 101, 110, 103, 116, 104]⟩
def raS : ByteArray := ⟨#[114, 101, 116, 114, 121, 45, 97, 102, 116, 101, 114]⟩
/-- An answer's fields. -/
def fieldsR (s l r : Nat) : List Fld := [⟨stS, decS s, false⟩, ⟨clS, decS l, false⟩] ++ (if r = 0 then [] else [⟨raS, decS r, false⟩])
theorem respOk_nat {s l r : Int} (h : respE s l r = 0) : ∃ a b c : Nat, s = a ∧ l = b ∧ r = c ∧ 100 ≤ a ∧ a ≤ 599 ∧ b ≤ 999999999 ∧ c ≤ 999999999 := by
  unfold respE at h
  split at h
  · rename_i h1
    unfold respOk at h1
    simp only [Bool.and_eq_true, inB_iff] at h1
    exact ⟨s.toNat, l.toNat, r.toNat, by omega, by omega, by omega, by omega, by omega, by omega, by omega⟩
  · omega
/-- Three numbers in a block. -/
def XRow (T : TypeId) (W : World) (q : Nat) (s l r : Int) : Prop := W.heap[q]? = some (.cells #[.int .i64 s, .int .i64 l, .int .i64 r] T (0, 0))
theorem XRow.c0 {T : TypeId} {W : World} {q : Nat} {s l r : Int} (h : XRow T W q s l r) : W.cell? ⟨q, 0, none⟩ = some (.int .i64 s) := cell_of_row _ _ _ _ _ _ h
theorem XRow.c1 {T : TypeId} {W : World} {q : Nat} {s l r : Int} (h : XRow T W q s l r) : W.cell? ⟨q, 1, none⟩ = some (.int .i64 l) := cell_of_row _ _ _ _ _ _ h
theorem XRow.c2 {T : TypeId} {W : World} {q : Nat} {s l r : Int} (h : XRow T W q s l r) : W.cell? ⟨q, 2, none⟩ = some (.int .i64 r) := cell_of_row _ _ _ _ _ _ h
theorem XRow.lt {T : TypeId} {W : World} {q : Nat} {s l r : Int} (h : XRow T W q s l r) : q < W.heap.size := World.block_lt_of_cell? W ⟨q, 0, none⟩ h.c0
theorem XRow.step {T : TypeId} {W W' : World} {q : Nat} {s l r : Int} (h : XRow T W q s l r) (hb : Below W.heap.size W W') : XRow T W' q s l r := (hb.block q h.lt).trans h
theorem XRow.new (T : TypeId) (W : World) (s l r : Int) : XRow T (W.alloc (.cells #[.int .i64 s, .int .i64 l, .int .i64 r] T)) W.heap.size s l r := heap_alloc_new W _
theorem bs_step {w2 Wc W' : World} {R : Prop} (hb : Below Wc.heap.size Wc W') (h : Below w2.heap.size w2 Wc ∧ R) : Below w2.heap.size w2 W' := h.1.trans (hb.mono h.1.size)
theorem bs_alloc {w2 Wc : World} {R : Prop} (h : Below w2.heap.size w2 Wc ∧ R) (o : Obj) : Below w2.heap.size w2 (Wc.alloc o) := h.1.alloc h.1.size o
def FieldsPost (s l r : Int) (w : World) (e : Ending) (w' : World) : Prop :=
  (respE s l r ≠ 0 ∧ e = .returned (.tuple #[.slice none 0 0, .int .i64 8]) ∧ Below w.heap.size w w') ∨
  (respE s l r = 0 ∧ ∃ v, e = .returned (.tuple #[v, .int .i64 0]) ∧ OwnF w' w.heap.size v (fieldsR s.toNat l.toNat r.toNat) ∧ Below w.heap.size w w')
set_option maxRecDepth 100000 in
set_option maxHeartbeats 2000000 in
theorem fields_any (s l r : Int) (w : World) (hT : Tab w) : Calls Tryd.prog 11 #[.agg #[.int .i64 s, .int .i64 l, .int .i64 r]] w (FieldsPost s l r w) := by
  have HT := Lib.hid hT
  have HC := Lib.hid (fun W => check_any s l r W)
  obtain ⟨i0, hi0, hz0, hz1, hz2⟩ := info_parts field_info
  have HI := Lib.hid hi0
  have HZ0 := Lib.hid hz0
  have HZ1 := Lib.hid hz1
  have HZ2 := Lib.hid hz2
  clear hi0 hz0 hz1 hz2 hT
  go_enter Tryd.func11, Tryd.ntmps11
  go_wp2_with fail
  have HX := Lib.hid (XRow.new 28 w s l r)
  have HB := Lib.hid ((Below.refl w.heap.size w).alloc (Nat.le_refl _) (.cells #[.int .i64 s, .int .i64 l, .int .i64 r] 28))
  generalize w.alloc (.cells #[.int .i64 s, .int .i64 l, .int .i64 r] 28) = w1 at HX HB ⊢
  refine (HC.out _).mono ?_
  rintro e w2 ⟨rfl, hb⟩
  have HX2 := Lib.hid (HX.out.step hb)
  have HB2 := Lib.hid (HB.out.trans (hb.mono HB.out.size))
  have HT2 := Lib.hid (HT.out.below HB2.out)
  clear hb HX HB
  by_cases he : respE s l r = 0
  · have HE := Lib.hid he
    obtain ⟨a, b, c, rfl, rfl, rfl, ha1, ha2, hb1, hc1⟩ := respOk_nat he
    rw [he]
    have I1 := Lib.hid (fun W hW => itoa_any a (by omega) W hW)
    have I2 := Lib.hid (fun W hW => itoa_any b (by omega) W hW)
    have I3 := Lib.hid (fun W hW => itoa_any c (by omega) W hW)
    have HF := Lib.hid (show fieldsR a b c = [⟨stS, decS a, false⟩, ⟨clS, decS b, false⟩] ++ (if c = 0 then [] else [⟨raS, decS c, false⟩]) from rfl)
    clear he
    have c0 := HX2.out.c0
    have c1 := HX2.out.c1
    have c2 := HX2.out.c2
    have HFA := Lib.hid (show ∀ W, Below w2.heap.size w2 W → (Below w2.heap.size w2 W ∧ W.cell? ⟨w.heap.size, 0, none⟩ = some (.int .i64 (a : Int)) ∧ W.cell? ⟨w.heap.size, 1, none⟩ = some (.int .i64 (b : Int))) from fun W hW => ⟨hW, (HX2.out.step hW).c0, (HX2.out.step hW).c1⟩)
    have H0 := Lib.hid (HFA.out w2.drew (Below.refl _ _).drew)
    have HTW := Lib.hid (show ∀ W, Below w2.heap.size w2 W → Tab W from fun W hW => HT2.out.below hW)
    go_wp2_with fail
    go_region_held (fun W => Below w2.heap.size w2 W ∧ W.cell? ⟨w.heap.size, 0, none⟩ = some (.int .i64 (a : Int)) ∧ W.cell? ⟨w.heap.size, 1, none⟩ = some (.int .i64 (b : Int))) (first | exact HBN | exact H0.out | exact HFA.out _ (bs_alloc (by assumption) _)) (first
      | (go_at_call 38; first
          | (refine (I1.out _ (HTW.out _ (And.left (by assumption)))).mono ?_; rintro e w' ⟨rfl, hb⟩; have HBN := HFA.out _ (bs_step hb (by assumption)))
          | (refine (I2.out _ (HTW.out _ (And.left (by assumption)))).mono ?_; rintro e w' ⟨rfl, hb⟩; have HBN := HFA.out _ (bs_step hb (by assumption)))))
    all_goals
      have HB3 := Lib.hid (bs_alloc HBN (.cells #[.string ⟨#[58, 115, 116, 97, 116, 117, 115]⟩, .string (decS a), .bool false, .string ⟨#[99, 111, 110, 116, 101, 110, 116, 45, 108, 101, 110, 103, 116, 104]⟩, .string (decS b), .bool false] 66))
      have HO3 := Lib.hid (show OwnF (w'.alloc (.cells #[.string ⟨#[58, 115, 116, 97, 116, 117, 115]⟩, .string (decS a), .bool false, .string ⟨#[99, 111, 110, 116, 101, 110, 116, 45, 108, 101, 110, 103, 116, 104]⟩, .string (decS b), .bool false] 66)) w'.heap.size (.slice (some ⟨w'.heap.size, 0, none⟩) 2 2) [⟨stS, decS a, false⟩, ⟨clS, decS b, false⟩] from World.ownsRow_lit (e := 66) (size := 3) w' #[.string ⟨#[58, 115, 116, 97, 116, 117, 115]⟩, .string (decS a), .bool false, .string ⟨#[99, 111, 110, 116, 101, 110, 116, 45, 108, 101, 110, 103, 116, 104]⟩, .string (decS b), .bool false] 2 (Nat.le_refl _) (by decide) rfl)
      have HO4 := Lib.hid (HO3.out.mono (show w.heap.size ≤ w'.heap.size from Nat.le_trans HB2.out.size HBN.1.size))
      generalize hv3 : Value.slice (some ⟨w'.heap.size, 0, none⟩) 2 2 = v3 at HO4 ⊢
      generalize w'.alloc (.cells #[.string ⟨#[58, 115, 116, 97, 116, 117, 115]⟩, .string (decS a), .bool false, .string ⟨#[99, 111, 110, 116, 101, 110, 116, 45, 108, 101, 110, 103, 116, 104]⟩, .string (decS b), .bool false] 66) = w3 at HB3 HO4 ⊢
      have HBW := Lib.hid (HB2.out.trans (HB3.out.mono HB2.out.size))
      have HT3 := Lib.hid (HT2.out.below HB3.out)
      have HX3 := Lib.hid (HX2.out.step HB3.out)
      clear HBN HB3 HO3
      have c2 := HX3.out.c2
      by_cases hc0 : c = 0
      · subst hc0
        go_wp2_with fail
        refine bodyPost_ret (v := .tuple #[v3, .int .i64 0]) (by simp [results, Tryd.results11, go_sem]) rfl (.inr ⟨HE.out, v3, rfl, ?_, HBW.out⟩)
        exact (show OwnF w3 w.heap.size v3 (fieldsR a b 0) from HO4.out)
      · have q : ((c : Int) != 0) = true := by simp; omega
        have HF2 := Lib.hid (HF.out.trans (by rw [if_neg hc0]))
        go_wp2_with fail
        refine (I3.out _ HT3.out).mono ?_
        rintro e w4 ⟨rfl, hb⟩
        have HO5 := Lib.hid (HO4.out.step hb)
        have HB5 := Lib.hid (HBW.out.trans (hb.mono HBW.out.size))
        clear hb
        have HONE := Lib.hid (show ∀ u ∈ [Value.string ⟨#[114, 101, 116, 114, 121, 45, 97, 102, 116, 101, 114]⟩, .string (decS c), .bool false], u.oneCell' = true from by intro u hu; simp at hu; rcases hu with rfl | rfl | rfl <;> rfl)
        have HSZ := Lib.hid (HB5.out.alloc HB5.out.size (.cells #[.string ⟨#[114, 101, 116, 114, 121, 45, 97, 102, 116, 101, 114]⟩, .string (decS c), .bool false] 66)).size
        go_wp2_with (at_builtin; refine wpList_append_own_at _ rfl _ _ 24 rfl w.heap.size 66 i0 _ 3 40 Tryd.underlying24 HI.out HZ0.out HZ1.out HZ2.out rfl (by omega) v3 _ _ rfl (World.ownsRow.alloc HO5.out _) ⟨w4.heap.size, 0, none⟩ 1 1 [Value.string ⟨#[114, 101, 116, 114, 121, 45, 97, 102, 116, 101, 114]⟩, .string (decS c), .bool false] rfl rfl (cells_new w4 [Value.string ⟨#[114, 101, 116, 114, 121, 45, 97, 102, 116, 101, 114]⟩, .string (decS c), .bool false] _) HONE.out (by unfold maxLen; simp) (by simp) HSZ.out ?_; intro v5 w5 hown5 hg5 _ _; have HB6 := Lib.hid ((HB5.out.alloc HB5.out.size _).grown hg5 HSZ.out (fun q hq => (World.ownsRow.lt HO5.out q hq).1)); have HO6 := Lib.hid (show OwnF w5 w.heap.size v5 ([⟨stS, decS a, false⟩, ⟨clS, decS b, false⟩] ++ [⟨raS, decS c, false⟩]) from hown5); clear hown5 hg5)
        refine bodyPost_ret (v := .tuple #[v5, .int .i64 0]) (by simp [results, Tryd.results11, go_sem]) rfl (.inr ⟨HE.out, v5, rfl, ?_, HB6.out⟩)
        rw [Int.toNat_natCast, Int.toNat_natCast, Int.toNat_natCast, HF2.out]
        exact HO6.out
  · have he8 : respE s l r = 8 := by unfold respE at he ⊢; split at he; exact absurd rfl he; rename_i h; rw [if_neg h]
    rw [he8]
    go_wp2_with fail
    refine bodyPost_ret (v := .tuple #[.slice none 0 0, .int .i64 8]) (by simp [results, Tryd.results11, go_sem]) rfl (.inl ⟨he, rfl, HB2.out⟩)
#print axioms fields_any
end Go.Proofs.YtfgicmekkjhlkaaDoor
