/- reader.whole. -/
import Derived.Test.YtecmccihldjicaaDoorReqE
namespace Go.Proofs.YtecmccihldjicaaDoor
open Go.RowKit Go.Maps
set_option linter.unusedVariables false
set_option linter.unusedSimpArgs false

theorem bs_go {w1 W W' : World} {R : Prop} (hb : Below W.heap.size W W') (h : Below w1.heap.size w1 W ∧ R) : Below w1.heap.size w1 W' := h.1.trans (hb.mono h.1.size)
def tHttp : List UInt8 := [104, 116, 116, 112]
def tHttps : List UInt8 := [104, 116, 116, 112, 115]
def tOpt : List UInt8 := [79, 80, 84, 73, 79, 78, 83]
/-- Is all there, and right? -/
def wholeB (r : Rd) (L : List Fld) (en : Bool) : Bool :=
  decide (cntN L nMethod * cntN L nScheme * cntN L nPath = 1) && (nameS true r.m.data.toList && (((r.s.data.toList == tHttp) || (r.s.data.toList == tHttps)) && (!(en && decide (0 < r.len)) && (Lib.hasPrefix r.p.data.toList [47] || ((r.p.data.toList == [42]) && (r.m.data.toList == tOpt))))))
set_option maxRecDepth 100000 in
set_option maxHeartbeats 8000000 in
theorem whole_any (q b : Nat) (r : Rd) (L : List Fld) (hL : L.length ≤ 1000) (en : Bool) (W : World) (hm : r.m.size ≤ 1000) (h : RdAt W q b r) (hs : SeenM W b L) :
    Calls Tryd.prog 26 #[.pointer (some ⟨q, 0, none⟩), .bool en] W fun e w' => e = .returned (.bool (wholeB r L en)) ∧ Below W.heap.size W w' := by
  have H0 := Lib.hid ((Below.refl W.heap.size W).alloc (Nat.le_refl _) (.cells #[.string r.m, .string r.s, .string r.p, .string r.h, .int .i64 r.len, .int .i64 r.rank] 26))
  have HROW := Lib.hid (heap_alloc_new W (.cells #[.string r.m, .string r.s, .string r.p, .string r.h, .int .i64 r.len, .int .i64 r.rank] 26))
  have hlt0 := h.lt
  have hr0 := h.step H0.out
  have hs0 : SeenM (W.alloc (.cells #[.string r.m, .string r.s, .string r.p, .string r.h, .int .i64 r.len, .int .i64 r.rank] 26)) b L := hs.below H0.out
  have HF := Lib.hid (show ∀ W' : World, Below (W.alloc (.cells #[.string r.m, .string r.s, .string r.p, .string r.h, .int .i64 r.len, .int .i64 r.rank] 26)).heap.size (W.alloc (.cells #[.string r.m, .string r.s, .string r.p, .string r.h, .int .i64 r.len, .int .i64 r.rank] 26)) W' → (Below (W.alloc (.cells #[.string r.m, .string r.s, .string r.p, .string r.h, .int .i64 r.len, .int .i64 r.rank] 26)).heap.size (W.alloc (.cells #[.string r.m, .string r.s, .string r.p, .string r.h, .int .i64 r.len, .int .i64 r.rank] 26)) W' ∧ W'.cell? ⟨q, 6, none⟩ = some (.map (some b)) ∧ W'.cell? ⟨W.heap.size, 0, none⟩ = some (.string r.m) ∧ (Instr.lookup 46 (.map (some b)) (.string ⟨#[58, 109, 101, 116, 104, 111, 100]⟩) false).run Tryd.prog W' = .ok (.int .i64 (cntN L nMethod : Nat)) W' ∧ (Instr.lookup 46 (.map (some b)) (.string ⟨#[58, 115, 99, 104, 101, 109, 101]⟩) false).run Tryd.prog W' = .ok (.int .i64 (cntN L nScheme : Nat)) W' ∧ (Instr.lookup 46 (.map (some b)) (.string ⟨#[58, 112, 97, 116, 104]⟩) false).run Tryd.prog W' = .ok (.int .i64 (cntN L nPath : Nat)) W') from fun W' hW => ⟨hW, (hr0.step hW).cells.2.2.2.1, (hW.cell (p := ⟨W.heap.size, 0, none⟩) (by simp)).trans (cell_of_row _ _ 0 _ _ _ HROW.out), (hs0.below hW).look ⟨#[58, 109, 101, 116, 104, 111, 100]⟩ (by decide), (hs0.below hW).look ⟨#[58, 115, 99, 104, 101, 109, 101]⟩ (by decide), (hs0.below hW).look ⟨#[58, 112, 97, 116, 104]⟩ (by decide)⟩)
  have HSZ : Hid ((W.alloc (.cells #[.string r.m, .string r.s, .string r.p, .string r.h, .int .i64 r.len, .int .i64 r.rank] 26)).heap.size = W.heap.size + 1) := Lib.hid (by simp)
  have g1 := cntN_le L nMethod
  have g2 := cntN_le L nScheme
  have g3 := cntN_le L nPath
  have HNM := Lib.hid (fun W' => name_any r.m true W' (by unfold maxLen; omega))
  have HPF := Lib.hid (fun W' => Tryd.strings_HasPrefix r.p ⟨#[47]⟩ W')
  have e47 : (ByteArray.mk #[47]).data.toList = [47] := rfl
  rw [e47] at HPF
  have HV : Hid (wholeB r L en = (decide (cntN L nMethod * cntN L nScheme * cntN L nPath = 1) && (nameS true r.m.data.toList && (((r.s.toList == [104, 116, 116, 112]) || (r.s.toList == [104, 116, 116, 112, 115])) && (!(en && decide (0 < r.len)) && (Lib.hasPrefix r.p.data.toList [47] || ((r.p.toList == [42]) && (r.m.toList == [79, 80, 84, 73, 79, 78, 83])))))))) := Lib.hid (by simp only [tl]; rfl)
  generalize wholeB r L en = R at HV ⊢
  generalize cntN L nMethod = c1 at HF g1 HV
  generalize cntN L nScheme = c2 at HF g2 HV
  generalize cntN L nPath = c3 at HF g3 HV
  have k1 : c1 * c2 ≤ 1000 * 1000 := Nat.mul_le_mul (by omega) (by omega)
  have k2 : c1 * c2 * c3 ≤ 1000 * 1000 * 1000 := Nat.mul_le_mul k1 (by omega)
  have hw1 : IntKind.i64.wrap ((c1 : Int) * (c2 : Int)) = ((c1 * c2 : Nat) : Int) := by rw [← Int.natCast_mul]; exact IntWalk.i64_in _ (by omega)
  generalize c1 * c2 = c4 at hw1 k1 k2 HV
  have hw2 : IntKind.i64.wrap ((c4 : Int) * (c3 : Int)) = ((c4 * c3 : Nat) : Int) := by rw [← Int.natCast_mul]; exact IntWalk.i64_in _ (by omega)
  generalize c4 * c3 = c5 at hw2 k2 HV
  obtain ⟨bn, hbn⟩ : ∃ x, nameS true r.m.data.toList = x := ⟨_, rfl⟩
  obtain ⟨hp, hhp⟩ : ∃ x, Lib.hasPrefix r.p.data.toList [47] = x := ⟨_, rfl⟩
  obtain ⟨b1, q1⟩ : ∃ x, (r.s.toList == [104, 116, 116, 112]) = x := ⟨_, rfl⟩
  obtain ⟨b2, q2⟩ : ∃ x, (r.s.toList == [104, 116, 116, 112, 115]) = x := ⟨_, rfl⟩
  obtain ⟨b3, q3⟩ : ∃ x, decide ((0 : Int) < r.len) = x := ⟨_, rfl⟩
  obtain ⟨st, q4⟩ : ∃ x, (r.p.toList == [42]) = x := ⟨_, rfl⟩
  obtain ⟨op, q5⟩ : ∃ x, (r.m.toList == [79, 80, 84, 73, 79, 78, 83]) = x := ⟨_, rfl⟩
  rw [hbn] at HNM
  rw [hhp] at HPF
  rw [hbn, hhp, q1, q2, q3, q4, q5] at HV
  clear hbn hhp g1 g2 g3 k1 k2 e47 hs
  have p1 := cell_of_row _ _ 0 _ _ _ HROW.out
  have p2 := cell_of_row _ _ 1 _ _ _ HROW.out
  have p3 := cell_of_row _ _ 2 _ _ _ HROW.out
  have p4 := cell_of_row _ _ 3 _ _ _ HROW.out
  have p5 := cell_of_row _ _ 4 _ _ _ HROW.out
  obtain ⟨⟨d0, d1, d2, d3⟩, d4, d5, d6, d7⟩ := h.cells
  have H0S := Lib.hid (HF.out _ (Below.refl _ (W.alloc (.cells #[.string r.m, .string r.s, .string r.p, .string r.h, .int .i64 r.len, .int .i64 r.rank] 26))).drew)
  clear hr0 hs0 h
  by_cases h0 : c5 = 1
  · have q0 : ((c5 : Int) == 1) = true := by rw [h0]; rfl
    have q0' : ((c5 : Int) != 1) = false := by rw [h0]; rfl
    rw [decide_eq_true h0] at HV
    clear h0
    go_enter Tryd.func26, Tryd.ntmps26
    go_upto_region 2 with fail
    go_region_held (fun W' => Below (W.alloc (.cells #[.string r.m, .string r.s, .string r.p, .string r.h, .int .i64 r.len, .int .i64 r.rank] 26)).heap.size (W.alloc (.cells #[.string r.m, .string r.s, .string r.p, .string r.h, .int .i64 r.len, .int .i64 r.rank] 26)) W' ∧ W'.cell? ⟨q, 6, none⟩ = some (.map (some b)) ∧ W'.cell? ⟨W.heap.size, 0, none⟩ = some (.string r.m) ∧ (Instr.lookup 46 (.map (some b)) (.string ⟨#[58, 109, 101, 116, 104, 111, 100]⟩) false).run Tryd.prog W' = .ok (.int .i64 (c1 : Nat)) W' ∧ (Instr.lookup 46 (.map (some b)) (.string ⟨#[58, 115, 99, 104, 101, 109, 101]⟩) false).run Tryd.prog W' = .ok (.int .i64 (c2 : Nat)) W' ∧ (Instr.lookup 46 (.map (some b)) (.string ⟨#[58, 112, 97, 116, 104]⟩) false).run Tryd.prog W' = .ok (.int .i64 (c3 : Nat)) W') (first | exact HBN | exact H0S.out) (first | (go_at_call 35; with_reducible refine (HNM.out _).mono ?_; rintro e w5 ⟨rfl, hb5⟩; have HBN := HF.out _ (bs_go hb5 (by assumption))))
    all_goals
      have r5 := (HBN.1.block W.heap.size (by simp)).trans HROW.out
      have t1 := cell_of_row _ _ 0 _ _ _ r5
      have t2 := cell_of_row _ _ 1 _ _ _ r5
      have t3 := cell_of_row _ _ 2 _ _ _ r5
      have t5 := cell_of_row _ _ 4 _ _ _ r5
      have HBB := Lib.hid (H0.out.trans (HBN.1.mono H0.out.size))
      clear r5 HBN
      cases bn
      · skip
        go_wp2_with (first | (go_at_call 23; with_reducible refine (HPF.out _).mono ?_; rintro e w6 ⟨rfl, hw6⟩; obtain rfl := hw6.symm))
        go_ret
        exact ⟨ret_b (by rw [HV.out]; rfl), HBB.out⟩
      · rcases (show (b1 = false ∧ b2 = false) ∨ (b1 = true ∨ (b1 = false ∧ b2 = true)) from by cases b1 <;> cases b2 <;> simp) with ⟨hb1, hb2⟩ | hb1
        · subst hb1
          subst hb2
          go_wp2_with (first | (go_at_call 23; with_reducible refine (HPF.out _).mono ?_; rintro e w6 ⟨rfl, hw6⟩; obtain rfl := hw6.symm))
          go_ret
          exact ⟨ret_b (by rw [HV.out]; rfl), HBB.out⟩
        · have hb12 : (b1 || b2) = true := by rcases hb1 with rfl | ⟨rfl, rfl⟩ <;> simp
          rw [hb12] at HV
          clear hb12
          rcases (show (en = true ∧ b3 = true) ∨ (en = false ∨ (en = true ∧ b3 = false)) from by cases en <;> cases b3 <;> simp) with ⟨he, hb3⟩ | he
          · subst he
            subst hb3
            rcases hb1 with hb1 | ⟨hb1, hb2⟩
            · subst hb1
              go_wp2_with (first | (go_at_call 23; with_reducible refine (HPF.out _).mono ?_; rintro e w6 ⟨rfl, hw6⟩; obtain rfl := hw6.symm))
              go_ret
              exact ⟨ret_b (by rw [HV.out]; rfl), HBB.out⟩
            · subst hb1
              subst hb2
              go_wp2_with (first | (go_at_call 23; with_reducible refine (HPF.out _).mono ?_; rintro e w6 ⟨rfl, hw6⟩; obtain rfl := hw6.symm))
              go_ret
              exact ⟨ret_b (by rw [HV.out]; rfl), HBB.out⟩
          · have he3 : (!(en && b3)) = true := by rcases he with rfl | ⟨rfl, rfl⟩ <;> simp
            rw [he3] at HV
            clear he3
            rcases he with he | ⟨he, hb3⟩
            · subst he
              rcases hb1 with hb1 | ⟨hb1, hb2⟩
              · subst hb1
                rcases (show (hp = true) ∨ (hp = false ∧ st = false) ∨ (hp = false ∧ st = true) from by cases hp <;> cases st <;> simp) with rfl | ⟨rfl, rfl⟩ | ⟨rfl, rfl⟩
                all_goals
                  go_wp2_with (first | (go_at_call 23; with_reducible refine (HPF.out _).mono ?_; rintro e w6 ⟨rfl, hw6⟩; obtain rfl := hw6.symm))
                  go_ret
                  exact ⟨ret_b (by rw [HV.out]; rfl), HBB.out⟩
              · subst hb1
                subst hb2
                rcases (show (hp = true) ∨ (hp = false ∧ st = false) ∨ (hp = false ∧ st = true) from by cases hp <;> cases st <;> simp) with rfl | ⟨rfl, rfl⟩ | ⟨rfl, rfl⟩
                all_goals
                  go_wp2_with (first | (go_at_call 23; with_reducible refine (HPF.out _).mono ?_; rintro e w6 ⟨rfl, hw6⟩; obtain rfl := hw6.symm))
                  go_ret
                  exact ⟨ret_b (by rw [HV.out]; rfl), HBB.out⟩
            · subst he
              subst hb3
              rcases hb1 with hb1 | ⟨hb1, hb2⟩
              · subst hb1
                rcases (show (hp = true) ∨ (hp = false ∧ st = false) ∨ (hp = false ∧ st = true) from by cases hp <;> cases st <;> simp) with rfl | ⟨rfl, rfl⟩ | ⟨rfl, rfl⟩
                all_goals
                  go_wp2_with (first | (go_at_call 23; with_reducible refine (HPF.out _).mono ?_; rintro e w6 ⟨rfl, hw6⟩; obtain rfl := hw6.symm))
                  go_ret
                  exact ⟨ret_b (by rw [HV.out]; rfl), HBB.out⟩
              · subst hb1
                subst hb2
                rcases (show (hp = true) ∨ (hp = false ∧ st = false) ∨ (hp = false ∧ st = true) from by cases hp <;> cases st <;> simp) with rfl | ⟨rfl, rfl⟩ | ⟨rfl, rfl⟩
                all_goals
                  go_wp2_with (first | (go_at_call 23; with_reducible refine (HPF.out _).mono ?_; rintro e w6 ⟨rfl, hw6⟩; obtain rfl := hw6.symm))
                  go_ret
                  exact ⟨ret_b (by rw [HV.out]; rfl), HBB.out⟩
  · have q0 : ((c5 : Int) == 1) = false := beq_eq_false_iff_ne.2 (by omega)
    have q0' : ((c5 : Int) != 1) = true := by rw [bne, q0]; rfl
    have q0n : ¬ ((c5 : Nat) : Int) = 1 := by omega
    rw [decide_eq_false h0] at HV
    clear h0
    generalize ((c5 : Nat) : Int) = x5 at hw2 q0 q0' q0n
    obtain ⟨u0, u1, u2, u3, u4, u5⟩ := H0S.out
    go_enter Tryd.func26, Tryd.ntmps26
    go_upto_region 2 with fail
    go_region
    all_goals
      go_wp2_with fail
      go_ret
      exact ⟨ret_b (by rw [HV.out]; rfl), H0.out.drew⟩
end Go.Proofs.YtecmccihldjicaaDoor
