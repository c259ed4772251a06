/- The document's side of a request: ranks, pseudo fields, values of a name. -/
import Derived.Test.YtecmccihldjicaaDoorReqM
namespace Go.Proofs.YtecmccihldjicaaDoor
open Go.RowKit
set_option linter.unusedVariables false
set_option linter.unusedSimpArgs false

theorem hp_ne {a b : UInt8} (h : a ≠ b) (p s : List UInt8) : Lib.hasPrefix (a :: s) (b :: p) = false := by
  unfold Lib.hasPrefix
  simp [List.isPrefixOf, beq_eq_false_iff_ne.2 h.symm]
theorem hp_eq (a : UInt8) (p s : List UInt8) : Lib.hasPrefix (a :: s) (a :: p) = Lib.hasPrefix s p := by
  unfold Lib.hasPrefix
  simp [List.isPrefixOf]
theorem hp_nil (s : List UInt8) : Lib.hasPrefix s [] = true := by unfold Lib.hasPrefix; cases s <;> rfl
theorem hp_none (b : UInt8) (p : List UInt8) : Lib.hasPrefix [] (b :: p) = false := rfl
theorem cut_nil_iff (r : List UInt8) : (cutL 44 r).1 = [] ↔ r = [] ∨ r.head? = some 44 := by
  cases r with
  | nil => simp [cutL]
  | cons a t =>
    rw [cutL_cons]
    split
    · rename_i h; simp [h]
    · rename_i h; simp [h]
theorem rankS_short {l : List UInt8} (h : l.length < 3) : rankS l = 3 := by
  unfold rankS
  match l, h with
  | [], _ => rfl
  | [a], _ =>
    rw [cutL_cons]
    split
    · rfl
    · show (if Lib.hasPrefix [a] [117, 61] = true then _ else _) = _
      rw [if_neg]
      by_cases ha : a = 117
      · subst ha; rw [hp_eq]; decide
      · rw [hp_ne ha]; decide
  | [a, b], _ =>
    rw [cutL_cons]
    split
    · rfl
    · rw [cutL_cons]
      split
      · show (if Lib.hasPrefix [a] [117, 61] = true then _ else _) = _
        rw [if_neg]
        by_cases ha : a = 117
        · subst ha; rw [hp_eq]; decide
        · rw [hp_ne ha]; decide
      · show (if Lib.hasPrefix [a, b] [117, 61] = true then rankD (Lib.trimPrefix [a, b] [117, 61]) else _) = _
        by_cases hp : Lib.hasPrefix [a, b] [117, 61] = true
        · rw [if_pos hp]
          unfold Lib.trimPrefix
          rw [if_pos hp]
          rfl
        · rw [if_neg hp]
theorem rankS_cons (a b d : UInt8) (r : List UInt8) : rankS (a :: b :: d :: r) = if a ≠ 117 ∨ b ≠ 61 ∨ d.toNat < 48 ∨ 55 < d.toNat ∨ (r ≠ [] ∧ r.head? ≠ some 44) then 3 else (d.toNat : Int) - 48 := by
  generalize hX : (if a ≠ 117 ∨ b ≠ 61 ∨ d.toNat < 48 ∨ 55 < d.toNat ∨ (r ≠ [] ∧ r.head? ≠ some 44) then 3 else (d.toNat : Int) - 48) = X
  unfold rankS
  by_cases ha : a = 117
  · subst ha
    rw [cutL_cons, if_neg (show ¬ (117 : UInt8) = 44 by decide)]
    by_cases hb : b = 61
    · subst hb
      rw [cutL_cons, if_neg (show ¬ (61 : UInt8) = 44 by decide)]
      have hp : ∀ t, Lib.hasPrefix (117 :: 61 :: t) [117, 61] = true := fun t => by rw [hp_eq, hp_eq, hp_nil]
      have htr : ∀ t, Lib.trimPrefix (117 :: 61 :: t) [117, 61] = t := fun t => by unfold Lib.trimPrefix; rw [if_pos (hp t)]; rfl
      show (if Lib.hasPrefix (117 :: 61 :: (cutL 44 (d :: r)).1) [117, 61] = true then rankD (Lib.trimPrefix (117 :: 61 :: (cutL 44 (d :: r)).1) [117, 61]) else 3) = _
      rw [if_pos (hp _), htr, cutL_cons]
      by_cases hd : d = 44
      · subst hd
        rw [if_pos rfl, ← hX]
        rw [if_pos (show _ from .inr (.inr (.inl (by decide))))]
        rfl
      · rw [if_neg hd]
        show rankD (d :: (cutL 44 r).1) = _
        by_cases hr : (cutL 44 r).1 = []
        · rw [hr]
          have := (cut_nil_iff r).1 hr
          unfold rankD
          by_cases hq : 48 ≤ d.toNat ∧ d.toNat ≤ 55
          · show (if 48 ≤ d.toNat ∧ d.toNat ≤ 55 then _ else _) = _
            rw [if_pos hq, ← hX, if_neg]
            rintro (h | h | h | h | ⟨h1, h2⟩)
            · exact h rfl
            · exact h rfl
            · omega
            · omega
            · rcases this with h | h
              · exact h1 h
              · exact h2 h
          · show (if 48 ≤ d.toNat ∧ d.toNat ≤ 55 then _ else _) = _
            rw [if_neg hq, ← hX, if_pos]
            rcases Nat.lt_or_ge d.toNat 48 with h | h
            · exact .inr (.inr (.inl h))
            · exact .inr (.inr (.inr (.inl (by omega))))
        · rw [← hX, if_pos]
          · cases hx : (cutL 44 r).1 with
            | nil => exact absurd hx hr
            | cons x y => rfl
          · have := mt (cut_nil_iff r).2 hr
            exact .inr (.inr (.inr (.inr ⟨fun e => this (.inl e), fun e => this (.inr e)⟩)))
    · have hX3 : X = 3 := by rw [← hX]; exact if_pos (.inr (.inl hb))
      rw [hX3, cutL_cons]
      apply if_neg
      split
      · show ¬ Lib.hasPrefix [117] [117, 61] = true; decide
      · show ¬ Lib.hasPrefix (117 :: b :: _) [117, 61] = true
        rw [hp_eq, hp_ne hb]; decide
  · have hX3 : X = 3 := by rw [← hX]; exact if_pos (.inl ha)
    rw [hX3, cutL_cons]
    apply if_neg
    split
    · show ¬ Lib.hasPrefix [] [117, 61] = true; decide
    · show ¬ Lib.hasPrefix (a :: _) [117, 61] = true
      rw [hp_ne ha]; decide
theorem u8_ne (c d : UInt8) : c ≠ d ↔ (c.toNat : Int) ≠ (d.toNat : Int) := by
  rw [ne_eq, ne_eq, ← UInt8.toNat_inj]
  omega
theorem list3 (s : ByteArray) (h : 3 ≤ s.size) : s.data.toList = s[0] :: s[1] :: s[2] :: s.data.toList.drop 3 := by
  have hl : s.data.toList.length = s.size := (sz s).symm
  rw [← byte_at s 0 (by omega), ← byte_at s 1 (by omega), ← byte_at s 2 (by omega)]
  rw [← List.drop_eq_getElem_cons, ← List.drop_eq_getElem_cons, ← List.drop_eq_getElem_cons]
  rfl
def rkB (s : ByteArray) (h : 3 ≤ s.size) : Bool := decide ((s[0].toNat : Int) ≠ 117) || decide ((s[1].toNat : Int) ≠ 61) || decide ((s[2].toNat : Int) < 48) || decide ((55 : Int) < (s[2].toNat : Int))
theorem rankS_at (s : ByteArray) (h : 3 ≤ s.size) (h3 : s.size = 3) : rankS s.data.toList = (if rkB s h = true then (3 : Int) else (s[2].toNat : Int) - 48) := by
  rw [list3 s h, rankS_cons]
  have e : s.data.toList.drop 3 = [] := List.drop_eq_nil_of_le (by rw [← sz]; omega)
  rw [e]
  have a0 : s[0] ≠ 117 ↔ (s[0].toNat : Int) ≠ 117 := u8_ne _ _
  have a1 : s[1] ≠ 61 ↔ (s[1].toNat : Int) ≠ 61 := u8_ne _ _
  unfold rkB
  congr 1
  rw [a0, a1]
  simp only [Bool.or_eq_true, decide_eq_true_eq, eq_iff_iff]
  constructor
  · rintro (h | h | h | h | ⟨h, _⟩)
    · exact .inl (.inl (.inl h))
    · exact .inl (.inl (.inr h))
    · exact .inl (.inr (by omega))
    · exact .inr (by omega)
    · exact absurd rfl h
  · rintro (((h | h) | h) | h)
    · exact .inl h
    · exact .inr (.inl h)
    · exact .inr (.inr (.inl (by omega)))
    · exact .inr (.inr (.inr (.inl (by omega))))
theorem rankS_more (s : ByteArray) (h : 3 ≤ s.size) (h3 : 3 < s.size) : rankS s.data.toList = (if (rkB s h || decide ((s[3].toNat : Int) ≠ 44)) = true then (3 : Int) else (s[2].toNat : Int) - 48) := by
  rw [list3 s h, rankS_cons]
  have hne : s.data.toList.drop 3 ≠ [] := by
    intro e
    have := congrArg List.length e
    rw [List.length_drop, ← sz] at this
    simp at this
    omega
  have hhd : (s.data.toList.drop 3).head? = some s[3] := by
    rw [List.head?_drop, List.getElem?_eq_getElem (by rw [← sz]; exact h3), byte_at s 3 h3]
  rw [hhd]
  have a0 : s[0] ≠ 117 ↔ (s[0].toNat : Int) ≠ 117 := u8_ne _ _
  have a1 : s[1] ≠ 61 ↔ (s[1].toNat : Int) ≠ 61 := u8_ne _ _
  have a3 : some s[3] ≠ some 44 ↔ (s[3].toNat : Int) ≠ 44 := by rw [ne_eq, Option.some.injEq]; exact u8_ne _ _
  unfold rkB
  congr 1
  rw [a0, a1, a3]
  simp only [Bool.or_eq_true, decide_eq_true_eq, eq_iff_iff]
  constructor
  · rintro (h | h | h | h | ⟨_, h⟩)
    · exact .inl (.inl (.inl (.inl h)))
    · exact .inl (.inl (.inl (.inr h)))
    · exact .inl (.inl (.inr (by omega)))
    · exact .inl (.inr (by omega))
    · exact .inr h
  · rintro ((((h | h) | h) | h) | h)
    · exact .inl h
    · exact .inr (.inl h)
    · exact .inr (.inr (.inl (by omega)))
    · exact .inr (.inr (.inr (.inl (by omega))))
    · exact .inr (.inr (.inr (.inr ⟨hne, h⟩)))
theorem dne (x y : Int) : (x != y) = decide (x ≠ y) := by rw [Bool.eq_iff_iff]; simp
set_option maxHeartbeats 4000000 in
theorem refRank_any (s : ByteArray) (hs : s.size ≤ 1000000) (w : World) : Calls Tryd.prog 19 #[.string s] w fun e w' => e = .returned (.int .i64 (rankS s.data.toList)) ∧ w = w' := by
  by_cases h3 : s.size < 3
  · have HR : Hid (rankS s.data.toList = 3) := Lib.hid (rankS_short (by rw [← sz]; exact h3))
    go_enter Tryd.func19, Tryd.ntmps19
    go_wp2_with fail
    go_ret
    exact ⟨ret_i HR.out.symm, rfl⟩
  · have g3 : 3 ≤ s.size := by omega
    have g0 : 0 < s.size := by omega
    have g1 : 1 < s.size := by omega
    have g2 : 2 < s.size := by omega
    have hc2 := byte_lt s[2]
    have HK : Hid (rkB s g3 = (decide ((s[0].toNat : Int) ≠ 117) || decide ((s[1].toNat : Int) ≠ 61) || decide ((s[2].toNat : Int) < 48) || decide ((55 : Int) < (s[2].toNat : Int)))) := Lib.hid rfl
    have HW : Hid (decide ((s[2].toNat : Int) < 48) = false → IntKind.u8.wrap ((s[2].toNat : Int) - 48) = (s[2].toNat : Int) - 48 ∧ IntKind.i64.wrap ((s[2].toNat : Int) - 48) = (s[2].toNat : Int) - 48) := Lib.hid (fun h => by
      have := of_decide_eq_false h
      exact ⟨IntWalk.u8_in _ (by omega), IntWalk.i64_in _ (by omega)⟩)
    obtain ⟨b0, e0⟩ : ∃ b, ((s[0].toNat : Int) != 117) = b := ⟨_, rfl⟩
    obtain ⟨b1, e1⟩ : ∃ b, ((s[1].toNat : Int) != 61) = b := ⟨_, rfl⟩
    obtain ⟨b2, e2⟩ : ∃ b, decide ((s[2].toNat : Int) < 48) = b := ⟨_, rfl⟩
    obtain ⟨b3, e3⟩ : ∃ b, decide ((55 : Int) < (s[2].toNat : Int)) = b := ⟨_, rfl⟩
    rw [← dne, ← dne, e0, e1, e2, e3] at HK
    rw [e2] at HW
    by_cases h4 : 3 < s.size
    · have HV := Lib.hid (rankS_more s g3 h4)
      obtain ⟨b4, e4⟩ : ∃ b, ((s[3].toNat : Int) != 44) = b := ⟨_, rfl⟩
      rw [← dne, e4, HK.out] at HV
      generalize rankS s.data.toList = R at HV ⊢
      rcases (show b0 = true ∨ (b0 = false ∧ b1 = true) ∨ (b0 = false ∧ b1 = false ∧ b2 = true) ∨ (b0 = false ∧ b1 = false ∧ b2 = false ∧ b3 = true) ∨ (b0 = false ∧ b1 = false ∧ b2 = false ∧ b3 = false ∧ b4 = true) ∨ (b0 = false ∧ b1 = false ∧ b2 = false ∧ b3 = false ∧ b4 = false) from by cases b0 <;> cases b1 <;> cases b2 <;> cases b3 <;> cases b4 <;> simp) with rfl | ⟨rfl, rfl⟩ | ⟨rfl, rfl, rfl⟩ | ⟨rfl, rfl, rfl, rfl⟩ | ⟨rfl, rfl, rfl, rfl, rfl⟩ | ⟨rfl, rfl, rfl, rfl, rfl⟩
      all_goals
        (try obtain ⟨hwa, hwb⟩ := HW.out rfl)
        go_enter Tryd.func19, Tryd.ntmps19
        go_wp2_with fail
        go_ret
        exact ⟨ret_i (by rw [HV.out]; simp), rfl⟩
    · have HV := Lib.hid (rankS_at s g3 (by omega))
      rw [HK.out] at HV
      generalize rankS s.data.toList = R at HV ⊢
      rcases (show b0 = true ∨ (b0 = false ∧ b1 = true) ∨ (b0 = false ∧ b1 = false ∧ b2 = true) ∨ (b0 = false ∧ b1 = false ∧ b2 = false ∧ b3 = true) ∨ (b0 = false ∧ b1 = false ∧ b2 = false ∧ b3 = false) from by cases b0 <;> cases b1 <;> cases b2 <;> cases b3 <;> simp) with rfl | ⟨rfl, rfl⟩ | ⟨rfl, rfl, rfl⟩ | ⟨rfl, rfl, rfl, rfl⟩ | ⟨rfl, rfl, rfl, rfl⟩
      all_goals
        (try obtain ⟨hwa, hwb⟩ := HW.out rfl)
        go_enter Tryd.func19, Tryd.ntmps19
        go_wp2_with fail
        go_ret
        exact ⟨ret_i (by rw [HV.out]; simp), rfl⟩
theorem colon_list (l : List UInt8) : Lib.hasPrefix l [58] = (match l with | [] => false | a :: _ => decide (a = 58)) := by
  cases l with
  | nil => rfl
  | cons a t =>
    by_cases h : a = 58
    · subst h; rw [hp_eq, hp_nil]; rfl
    · rw [hp_ne h]; simp [h]
set_option maxHeartbeats 4000000 in
theorem refPseudo_any (f : Fld) (w : World) : Calls Tryd.prog 43 #[f.val] w fun e w' => e = .returned (.bool (colonB f)) ∧ Below w.heap.size w w' := by
  obtain ⟨nm, vl, nv⟩ := f
  unfold Fld.val colonB
  simp only
  have HB := Lib.hid ((Below.refl w.heap.size w).alloc (Nat.le_refl _) (.cells #[.string nm, .string vl, .bool nv] 42))
  by_cases hE : nm.toList.isEmpty = true
  · have HR : Hid (Lib.hasPrefix nm.data.toList [58] = false) := Lib.hid (by rw [← tl, show nm.toList = [] from by simpa using hE]; rfl)
    have hE' : nm.toList = [] := by simpa using hE
    go_enter Tryd.func43, Tryd.ntmps43
    go_wp2_with fail
    go_ret
    exact ⟨ret_b HR.out.symm, HB.out⟩
  · have hE : nm.toList.isEmpty = false := by simpa using hE
    have hE' : ¬ nm.toList = [] := by simpa using hE
    have hpos : 0 < nm.size := by
      have : nm.size ≠ 0 := fun h => by have := (isEmpty_iff nm).2 h; rw [this] at hE; cases hE
      omega
    have HR : Hid (Lib.hasPrefix nm.data.toList [58] = ((nm[0].toNat : Int) == 58)) := Lib.hid (by
      have hh := head_byte nm hpos
      cases hl : nm.data.toList with
      | nil => rw [hl] at hh; cases hh
      | cons a t =>
        rw [hl] at hh
        obtain rfl : a = nm[0] := by simpa using hh
        rw [colon_list, Bool.eq_iff_iff]
        simp only [decide_eq_true_eq, beq_iff_eq]
        rw [← UInt8.toNat_inj]
        simp
        omega)
    obtain ⟨b, hb⟩ : ∃ b, ((nm[0].toNat : Int) == 58) = b := ⟨_, rfl⟩
    rw [hb] at HR
    go_enter Tryd.func43, Tryd.ntmps43
    go_wp2_with fail
    go_ret
    exact ⟨ret_b (by rw [HR.out]), HB.out⟩
end Go.Proofs.YtecmccihldjicaaDoor
