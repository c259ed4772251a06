/- The walk of RequestFields. -/
import Derived.Test.YtecmccihldjicaaDoorReqX
import Derived.Deep.RegionWith
namespace Go.Proofs.YtecmccihldjicaaDoor
open Go.RowKit
set_option linter.unusedVariables false
set_option linter.unusedSimpArgs false

set_option maxRecDepth 100000 in
set_option maxHeartbeats 16000000 in
theorem fields17_any (m s p h : ByteArray) (len rank : Int) (w : World) (hT : Tab w) (hM : MaxC w) :
    Calls Tryd.prog 5 #[.agg #[.string m, .string s, .string p, .string h, .int .i64 len, .int .i64 rank]] w fun e w' => e = .returned (.bool true) ∧ Below w.heap.size w w' := by
  have HTW := Lib.hid (show ∀ W, Below w.heap.size w W → Tab W from fun W hW => hT.below hW)
  have HMW := Lib.hid (show ∀ W, Below w.heap.size w W → MaxC W from fun W hW => hM.below hW)
  have HAW := Lib.hid (fun W (hW : Below w.heap.size w W) => awake17_any W (HTW.out W hW) (HMW.out W hW))
  have HBC := Lib.hid ((Below.refl w.heap.size w).alloc (Nat.le_refl _) (.cells #[.string m, .string s, .string p, .string h, .int .i64 len, .int .i64 rank] 29))
  have HQ := Lib.hid (show QRow 29 (w.alloc (.cells #[.string m, .string s, .string p, .string h, .int .i64 len, .int .i64 rank] 29)) w.heap.size m s p h len rank from heap_alloc_new w _)
  obtain ⟨x1, hw1⟩ : ∃ x, IntKind.i64.wrap ((m.size : Int) + (s.size : Int)) = x := ⟨_, rfl⟩
  obtain ⟨x2, hw2⟩ : ∃ x, IntKind.i64.wrap (x1 + (p.size : Int)) = x := ⟨_, rfl⟩
  obtain ⟨x3, hw3⟩ : ∃ x, IntKind.i64.wrap (x2 + (h.size : Int)) = x := ⟨_, rfl⟩
  obtain ⟨b4, q4⟩ : ∃ x, decide ((800 : Int) < x3) = x := ⟨_, rfl⟩
  obtain ⟨b1, q1⟩ : ∃ x, decide ((1099511627776 : Int) < len) = x := ⟨_, rfl⟩
  obtain ⟨b2, q2⟩ : ∃ x, decide (rank < 0) = x := ⟨_, rfl⟩
  obtain ⟨b3, q3⟩ : ∃ x, decide ((9 : Int) < rank) = x := ⟨_, rfl⟩
  have HFF : Hid (b1 = false → b2 = false → b3 = false → ∀ W, Below w.heap.size w W → Calls Tryd.prog 21 #[.agg #[.string m, .string s, .string p, .string h, .int .i64 len, .int .i64 rank]] W fun e w' => ∃ v, e = .returned v ∧ OwnF w' W.heap.size v (fieldsQ m s p h len rank) ∧ Below W.heap.size W w') := Lib.hid (by
    rintro rfl rfl rfl W hW
    have := of_decide_eq_false q1
    have := of_decide_eq_false q2
    have := of_decide_eq_false q3
    exact fields_any m s p h len rank (by omega) (by omega) (by omega) W (HTW.out W hW))
  have HFG : Hid (b1 = false → b2 = false → b3 = false → ∀ W, Calls Tryd.prog 22 #[.agg #[.string m, .string s, .string p, .string h, .int .i64 len, .int .i64 rank]] W fun e w' => ∃ v, e = .returned v ∧ OwnF w' W.heap.size v (fieldsQ m s p h len rank) ∧ Below W.heap.size W w') := Lib.hid (by
    rintro rfl rfl rfl W
    have := of_decide_eq_false q1
    have := of_decide_eq_false q2
    have := of_decide_eq_false q3
    exact refFields_any m s p h len rank (by omega) (by omega) (by omega) W)
  have HLQ := Lib.hid (fieldsQ_len m s p h len rank)
  clear hT hM
  have y0 := cell_of_row _ _ 0 _ _ _ HQ.out
  have y1 := cell_of_row _ _ 1 _ _ _ HQ.out
  have y2 := cell_of_row _ _ 2 _ _ _ HQ.out
  have y3 := cell_of_row _ _ 3 _ _ _ HQ.out
  have y4 := cell_of_row _ _ 4 _ _ _ HQ.out
  have y5 := cell_of_row _ _ 5 _ _ _ HQ.out
  rcases (show b1 = true ∨ (b1 = false ∧ b2 = true) ∨ (b1 = false ∧ b2 = false ∧ b3 = true) ∨ (b1 = false ∧ b2 = false ∧ b3 = false ∧ b4 = true) ∨ (b1 = false ∧ b2 = false ∧ b3 = false ∧ b4 = false) from by cases b1 <;> cases b2 <;> cases b3 <;> cases b4 <;> simp) with rfl | ⟨rfl, rfl⟩ | ⟨rfl, rfl, rfl⟩ | ⟨rfl, rfl, rfl, rfl⟩ | ⟨rfl, rfl, rfl, rfl⟩
  case inr.inr.inr.inr =>
    have HF1 := Lib.hid (HFF.out rfl rfl rfl)
    have HF2 := Lib.hid (HFG.out rfl rfl rfl)
    have HSM := Lib.hid (sameL_refl (fieldsQ m s p h len rank))
    clear HFF HFG
    generalize fieldsQ m s p h len rank = L at HF1 HF2 HSM HLQ
    go_enter Tryd.func5, Tryd.ntmps5
    go_upto_region 3 with fail
    generalize (w.alloc (.cells #[.string m, .string s, .string p, .string h, .int .i64 len, .int .i64 rank] 29)) = w1 at *
    have HQD : Hid (QRow 29 w1.drew w.heap.size m s p h len rank) := Lib.hid HQ.out
    go_region_with (first
      | (go_at_call 21; refine (HF1.out w1.drew HBC.out.drew).mono ?_; rintro e w2 ⟨v, rfl, ho, hb⟩; have HB2 := Lib.hid (bs_st HBC.out.drew hb); have HQ2 := Lib.hid (QRow.below HQD.out hb HQD.out.lt); obtain ⟨o2, c2, hv2, hf2, _⟩ := ho.form; obtain rfl := hv2; have HN2 := Lib.hid hf2; have z0 := cell_of_row _ _ 0 _ _ _ HQ2.out; have z1 := cell_of_row _ _ 1 _ _ _ HQ2.out; have z2 := cell_of_row _ _ 2 _ _ _ HQ2.out; have z3 := cell_of_row _ _ 3 _ _ _ HQ2.out; have z4 := cell_of_row _ _ 4 _ _ _ HQ2.out; have z5 := cell_of_row _ _ 5 _ _ _ HQ2.out; clear ho hb hf2)
      | (go_at_call 22; refine (HF2.out _).mono ?_; rintro e w3 ⟨v, rfl, ho, hb⟩; have HB3 := Lib.hid (bs_st HB2.out hb); have HN2b := Lib.hid (HN2.out.below hb); obtain ⟨o3, c3, hv3, hf3, _⟩ := ho.form; obtain rfl := hv3; have HN3 := Lib.hid hf3; clear ho hb hf3)
      | (go_at_call 20; refine (sameFields_any _ _ _ _ _ _ L L rfl rfl (by have := HLQ.out; omega) (by have := HLQ.out; omega) _ HN2b.out HN3.out).mono ?_; rintro e w4 ⟨rfl, hb⟩; rw [HSM.out]; have HB4 := Lib.hid (bs_st HB3.out hb); clear hb)
      | (go_at_call 9; refine (HAW.out _ HB4.out).mono ?_; rintro e w7 ⟨rfl, hb⟩; have HB5 := Lib.hid (bs_st HB4.out hb); clear hb))
    all_goals
      go_wp2_with fail
      go_ret
      exact ⟨rfl, HB5.out⟩
  all_goals
    go_enter Tryd.func5, Tryd.ntmps5
    go_wp2_with (first
      | (go_at_call 9; refine (HAW.out _ HBC.out).mono ?_; rintro e w7 ⟨rfl, hb⟩; replace HBC := Lib.hid (bs_st HBC.out hb); clear hb))
    go_ret
    exact ⟨rfl, HBC.out⟩
end Go.Proofs.YtecmccihldjicaaDoor
