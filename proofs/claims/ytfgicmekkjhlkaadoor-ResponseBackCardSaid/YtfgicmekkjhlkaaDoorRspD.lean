/- The document's fields of an answer. -/
import Derived.Test.YtfgicmekkjhlkaaDoorRspC
namespace Go.Proofs.YtfgicmekkjhlkaaDoor
open Go.RowKit
set_option linter.unusedVariables false
set_option linter.unusedSimpArgs false

theorem dcheck_any (s l r : Int) (w : World) : Calls Tryd.prog 15 #[.agg #[.int .i64 s, .int .i64 l, .int .i64 r]] w fun e w' => e = .returned (.int .i64 (respE s l r)) ∧ Below w.heap.size w w' := by
  have HB := Lib.hid ((Below.refl w.heap.size w).alloc (Nat.le_refl _) (.cells #[.int .i64 s, .int .i64 l, .int .i64 r] 23))
  have no : ∀ {P : Prop}, P → (P → ¬ (inB s 100 599 = true ∧ inB l 0 999999999 = true ∧ inB r 0 999999999 = true)) → Hid (respE s l r = 8) := fun h f => Lib.hid (respE_no (f h))
  have dec : ∀ (a b : Int), decide (a < b) = true ∧ a < b ∨ decide (a < b) = false ∧ ¬ a < b := fun a b => by
    by_cases h : a < b
    · exact .inl ⟨decide_eq_true h, h⟩
    · exact .inr ⟨decide_eq_false h, h⟩
  rcases dec s (100 : Int) with ⟨q0, h0⟩ | ⟨q0, h0⟩
  · have HE := no h0 (fun h ⟨x, y, z⟩ => by rw [inB_iff] at x y z; omega)
    go_enter Tryd.func15, Tryd.ntmps15
    go_wp2_with fail
    go_ret
    exact ⟨by rw [HE.out]; rfl, HB.out⟩
  rcases dec (599 : Int) s with ⟨q1, h1⟩ | ⟨q1, h1⟩
  · have HE := no h1 (fun h ⟨x, y, z⟩ => by rw [inB_iff] at x y z; omega)
    go_enter Tryd.func15, Tryd.ntmps15
    go_wp2_with fail
    go_ret
    exact ⟨by rw [HE.out]; rfl, HB.out⟩
  rcases dec l (0 : Int) with ⟨q2, h2⟩ | ⟨q2, h2⟩
  · have HE := no h2 (fun h ⟨x, y, z⟩ => by rw [inB_iff] at x y z; omega)
    go_enter Tryd.func15, Tryd.ntmps15
    go_wp2_with fail
    go_ret
    exact ⟨by rw [HE.out]; rfl, HB.out⟩
  rcases dec (999999999 : Int) l with ⟨q3, h3⟩ | ⟨q3, h3⟩
  · have HE := no h3 (fun h ⟨x, y, z⟩ => by rw [inB_iff] at x y z; omega)
    go_enter Tryd.func15, Tryd.ntmps15
    go_wp2_with fail
    go_ret
    exact ⟨by rw [HE.out]; rfl, HB.out⟩
  rcases dec r (0 : Int) with ⟨q4, h4⟩ | ⟨q4, h4⟩
  · have HE := no h4 (fun h ⟨x, y, z⟩ => by rw [inB_iff] at x y z; omega)
    go_enter Tryd.func15, Tryd.ntmps15
    go_wp2_with fail
    go_ret
    exact ⟨by rw [HE.out]; rfl, HB.out⟩
  rcases dec (999999999 : Int) r with ⟨q5, h5⟩ | ⟨q5, h5⟩
  · have HE := no h5 (fun h ⟨x, y, z⟩ => by rw [inB_iff] at x y z; omega)
    go_enter Tryd.func15, Tryd.ntmps15
    go_wp2_with fail
    go_ret
    exact ⟨by rw [HE.out]; rfl, HB.out⟩
  have HE := Lib.hid (respE_yes (inB_yes (n := s) (a := 100) (b := 599) (by omega) (by omega)) (inB_yes (n := l) (a := 0) (b := 999999999) (by omega) (by omega)) (inB_yes (n := r) (a := 0) (b := 999999999) (by omega) (by omega)))
  go_enter Tryd.func15, Tryd.ntmps15
  go_wp2_with fail
  go_ret
  exact ⟨by rw [HE.out]; rfl, HB.out⟩
set_option maxRecDepth 100000 in
set_option maxHeartbeats 2000000 in
theorem dfields_any (s l r : Int) (w : World) : Calls Tryd.prog 12 #[.agg #[.int .i64 s, .int .i64 l, .int .i64 r]] w (FieldsPost s l r w) := by
  have HC := Lib.hid (fun W => dcheck_any s l r W)
  obtain ⟨i0, hi0, hz0, hz1, hz2⟩ := info_parts field_info
  have HI := Lib.hid hi0
  have HZ0 := Lib.hid hz0
  have HZ1 := Lib.hid hz1
  have HZ2 := Lib.hid hz2
  clear hi0 hz0 hz1 hz2
  go_enter Tryd.func12, Tryd.ntmps12
  go_wp2_with fail
  have HX := Lib.hid (XRow.new 23 w s l r)
  have HB := Lib.hid ((Below.refl w.heap.size w).alloc (Nat.le_refl _) (.cells #[.int .i64 s, .int .i64 l, .int .i64 r] 23))
  generalize w.alloc (.cells #[.int .i64 s, .int .i64 l, .int .i64 r] 23) = w1 at HX HB ⊢
  refine (HC.out _).mono ?_
  rintro e w2 ⟨rfl, hb⟩
  have HX2 := Lib.hid (HX.out.step hb)
  have HB2 := Lib.hid (HB.out.trans (hb.mono HB.out.size))
  clear hb HX HB
  by_cases he : respE s l r = 0
  · have HE := Lib.hid he
    obtain ⟨a, b, c, rfl, rfl, rfl, ha1, ha2, hb1, hc1⟩ := respOk_nat he
    rw [he]
    have I1 := Lib.hid (fun W => show_any a (by omega) W)
    have I2 := Lib.hid (fun W => show_any b (by omega) W)
    have I3 := Lib.hid (fun W => show_any c (by omega) W)
    have HF := Lib.hid (show fieldsR a b c = [⟨stS, decS a, false⟩, ⟨clS, decS b, false⟩] ++ (if c = 0 then [] else [⟨raS, decS c, false⟩]) from rfl)
    clear he
    have c0 := HX2.out.c0
    have c1 := HX2.out.c1
    have c2 := HX2.out.c2
    have HFA := Lib.hid (show ∀ W, Below w2.heap.size w2 W → (Below w2.heap.size w2 W ∧ W.cell? ⟨w.heap.size, 0, none⟩ = some (.int .i64 (a : Int)) ∧ W.cell? ⟨w.heap.size, 1, none⟩ = some (.int .i64 (b : Int))) from fun W hW => ⟨hW, (HX2.out.step hW).c0, (HX2.out.step hW).c1⟩)
    have H0 := Lib.hid (HFA.out w2.drew (Below.refl _ _).drew)
    go_wp2_with fail
    go_region_held (fun W => Below w2.heap.size w2 W ∧ W.cell? ⟨w.heap.size, 0, none⟩ = some (.int .i64 (a : Int)) ∧ W.cell? ⟨w.heap.size, 1, none⟩ = some (.int .i64 (b : Int))) (first | exact HBN | exact H0.out | exact HFA.out _ (bs_alloc (by assumption) _)) (first
      | (go_at_call 39; first
          | (with_reducible refine (I1.out _).mono ?_; rintro e w' ⟨rfl, hb⟩; have HBN := HFA.out _ (bs_step hb (by assumption)))
          | (with_reducible refine (I2.out _).mono ?_; rintro e w' ⟨rfl, hb⟩; have HBN := HFA.out _ (bs_step hb (by assumption)))))
    all_goals
      have HB3 := Lib.hid (bs_alloc HBN (.cells #[.string ⟨#[58, 115, 116, 97, 116, 117, 115]⟩, .string (decS a), .bool false, .string ⟨#[99, 111, 110, 116, 101, 110, 116, 45, 108, 101, 110, 103, 116, 104]⟩, .string (decS b), .bool false] 66))
      have HO3 := Lib.hid (show OwnF (w'.alloc (.cells #[.string ⟨#[58, 115, 116, 97, 116, 117, 115]⟩, .string (decS a), .bool false, .string ⟨#[99, 111, 110, 116, 101, 110, 116, 45, 108, 101, 110, 103, 116, 104]⟩, .string (decS b), .bool false] 66)) w'.heap.size (.slice (some ⟨w'.heap.size, 0, none⟩) 2 2) [⟨stS, decS a, false⟩, ⟨clS, decS b, false⟩] from World.ownsRow_lit (e := 66) (size := 3) w' #[.string ⟨#[58, 115, 116, 97, 116, 117, 115]⟩, .string (decS a), .bool false, .string ⟨#[99, 111, 110, 116, 101, 110, 116, 45, 108, 101, 110, 103, 116, 104]⟩, .string (decS b), .bool false] 2 (Nat.le_refl _) (by decide) rfl)
      have HO4 := Lib.hid (HO3.out.mono (show w.heap.size ≤ w'.heap.size from Nat.le_trans HB2.out.size HBN.1.size))
      generalize hv3 : Value.slice (some ⟨w'.heap.size, 0, none⟩) 2 2 = v3 at HO4 ⊢
      generalize w'.alloc (.cells #[.string ⟨#[58, 115, 116, 97, 116, 117, 115]⟩, .string (decS a), .bool false, .string ⟨#[99, 111, 110, 116, 101, 110, 116, 45, 108, 101, 110, 103, 116, 104]⟩, .string (decS b), .bool false] 66) = w3 at HB3 HO4 ⊢
      have HBW := Lib.hid (HB2.out.trans (HB3.out.mono HB2.out.size))
      have HX3 := Lib.hid (HX2.out.step HB3.out)
      clear HBN HB3 HO3
      have c2 := HX3.out.c2
      by_cases hc0 : c = 0
      · subst hc0
        go_wp2_with fail
        refine bodyPost_ret (v := .tuple #[v3, .int .i64 0]) (by simp [results, Tryd.results12, go_sem]) rfl (.inr ⟨HE.out, v3, rfl, ?_, HBW.out⟩)
        exact (show OwnF w3 w.heap.size v3 (fieldsR a b 0) from HO4.out)
      · have q : decide ((0 : Int) < (c : Int)) = true := decide_eq_true (by omega)
        have HF2 := Lib.hid (HF.out.trans (by rw [if_neg hc0]))
        go_wp2_with fail
        refine (I3.out _).mono ?_
        rintro e w4 ⟨rfl, hb⟩
        have HO5 := Lib.hid (HO4.out.step hb)
        have HB5 := Lib.hid (HBW.out.trans (hb.mono HBW.out.size))
        clear hb
        have HONE := Lib.hid (show ∀ u ∈ [Value.string ⟨#[114, 101, 116, 114, 121, 45, 97, 102, 116, 101, 114]⟩, .string (decS c), .bool false], u.oneCell' = true from by intro u hu; simp at hu; rcases hu with rfl | rfl | rfl <;> rfl)
        have HSZ := Lib.hid (HB5.out.alloc HB5.out.size (.cells #[.string ⟨#[114, 101, 116, 114, 121, 45, 97, 102, 116, 101, 114]⟩, .string (decS c), .bool false] 66)).size
        go_wp2_with (at_builtin; refine wpList_append_own_at _ rfl _ _ 24 rfl w.heap.size 66 i0 _ 3 40 Tryd.underlying24 HI.out HZ0.out HZ1.out HZ2.out rfl (by omega) v3 _ _ rfl (World.ownsRow.alloc HO5.out _) ⟨w4.heap.size, 0, none⟩ 1 1 [Value.string ⟨#[114, 101, 116, 114, 121, 45, 97, 102, 116, 101, 114]⟩, .string (decS c), .bool false] rfl rfl (cells_new w4 [Value.string ⟨#[114, 101, 116, 114, 121, 45, 97, 102, 116, 101, 114]⟩, .string (decS c), .bool false] _) HONE.out (by unfold maxLen; simp) (by simp) HSZ.out ?_; intro v5 w5 hown5 hg5 _ _; have HB6 := Lib.hid ((HB5.out.alloc HB5.out.size _).grown hg5 HSZ.out (fun q hq => (World.ownsRow.lt HO5.out q hq).1)); have HO6 := Lib.hid (show OwnF w5 w.heap.size v5 ([⟨stS, decS a, false⟩, ⟨clS, decS b, false⟩] ++ [⟨raS, decS c, false⟩]) from hown5); clear hown5 hg5)
        refine bodyPost_ret (v := .tuple #[v5, .int .i64 0]) (by simp [results, Tryd.results12, go_sem]) rfl (.inr ⟨HE.out, v5, rfl, ?_, HB6.out⟩)
        rw [Int.toNat_natCast, Int.toNat_natCast, Int.toNat_natCast, HF2.out]
        exact HO6.out
  · have he8 : respE s l r = 8 := by unfold respE at he ⊢; split at he; exact absurd rfl he; rename_i h; rw [if_neg h]
    rw [he8]
    go_wp2_with fail
    refine bodyPost_ret (v := .tuple #[.slice none 0 0, .int .i64 8]) (by simp [results, Tryd.results12, go_sem]) rfl (.inl ⟨he, rfl, HB2.out⟩)
#print axioms dfields_any
end Go.Proofs.YtfgicmekkjhlkaaDoor
