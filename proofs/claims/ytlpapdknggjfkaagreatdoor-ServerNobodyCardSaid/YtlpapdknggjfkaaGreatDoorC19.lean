/- The machine's texts, slices and literals, in the program. -/
import Derived.Test.YtlpapdknggjfkaaGreatDoorC18
import Derived.WideShapes
import Derived.Laws.Strings
import Derived.Laws.Tables
import Derived.Great.BuildSlice
namespace Go.Proofs.YtlpapdknggjfkaaGreatDoor
open Go.RowKit
set_option linter.unusedVariables false
set_option linter.unusedSimpArgs false
set_option linter.unusedSectionVars false
variable [Sy]

theorem bytesOf_tl (l : List Nat) : (bytesOf l).toList = l.map UInt8.ofNat := by rw [ByteArray.toList_eq]; exact bytesOf_toList l
theorem ofNat_inj {a b : Nat} (ha : a < 256) (hb : b < 256) (h : UInt8.ofNat a = UInt8.ofNat b) : a = b := by
  have := congrArg UInt8.toNat h
  rwa [UInt8.toNat_ofNat_of_lt' ha, UInt8.toNat_ofNat_of_lt' hb] at this
theorem map_ofNat_inj : ∀ {l m : List Nat}, (∀ b ∈ l, b < 256) → (∀ b ∈ m, b < 256) → l.map UInt8.ofNat = m.map UInt8.ofNat → l = m
  | [], [], _, _, _ => rfl
  | [], _ :: _, _, _, h => by simp at h
  | _ :: _, [], _, _, h => by simp at h
  | x :: l, y :: m, h1, h2, h => by
    simp only [List.map_cons, List.cons.injEq] at h
    rw [ofNat_inj (h1 x (by simp)) (h2 y (by simp)) h.1, map_ofNat_inj (fun b hb => h1 b (by simp [hb])) (fun b hb => h2 b (by simp [hb])) h.2]
theorem map_ofNat_beq {l m : List Nat} (h1 : ∀ b ∈ l, b < 256) (h2 : ∀ b ∈ m, b < 256) : (l.map UInt8.ofNat == m.map UInt8.ofNat) = (l == m) := by
  by_cases h : l = m
  · subst h; simp
  · have : l.map UInt8.ofNat ≠ m.map UInt8.ofNat := fun k => h (map_ofNat_inj h1 h2 k)
    rw [beq_eq_false_iff_ne.2 h, beq_eq_false_iff_ne.2 this]
theorem ltL_eq : ∀ {l m : List Nat}, (∀ b ∈ l, b < 256) → (∀ b ∈ m, b < 256) → Op.bytesLess (l.map UInt8.ofNat) (m.map UInt8.ofNat) = ltL l m
  | [], [], _, _ => rfl
  | [], _ :: _, _, _ => rfl
  | _ :: _, [], _, _ => rfl
  | x :: l, y :: m, h1, h2 => by
    have hx := h1 x (by simp)
    have hy := h2 y (by simp)
    have e : ltL (x :: l) (y :: m) = Bool.rec (motive := fun _ => Bool) (Bool.rec (motive := fun _ => Bool) false (ltL l m) (Nat.beq x y)) true (Nat.blt x y) := rfl
    rw [e, List.map_cons, List.map_cons, Op.bytesLess, ltL_eq (fun b hb => h1 b (by simp [hb])) (fun b hb => h2 b (by simp [hb]))]
    have hlt : (UInt8.ofNat x < UInt8.ofNat y) ↔ x < y := by
      rw [UInt8.lt_iff_toNat_lt, UInt8.toNat_ofNat_of_lt' hx, UInt8.toNat_ofNat_of_lt' hy]
    by_cases h : x < y
    · rw [blt_t h, decide_eq_true (hlt.2 h)]; rfl
    · rw [blt_f h, decide_eq_false (fun k => h (hlt.1 k))]
      by_cases he : x = y
      · subst he
        rw [beq_t rfl]; simp
      · rw [beq_f he]
        have : ¬ UInt8.ofNat x = UInt8.ofNat y := fun k => he (ofNat_inj hx hy k)
        simp [this]
theorem bytesOf_app (a b : List Nat) : bytesOf a ++ bytesOf b = bytesOf (a ++ b) := by
  apply Go.WideShapes.bytes_inj
  simp [bytesOf]
section
variable {P : Program} {ρ : Pm} {w : World}
theorem strOp_snd {op : BinOp} {a b : List Nat} {z : AV} (e : strOp op a b = some z) (ha : ∀ x ∈ a, x < 256) (hb : ∀ x ∈ b, x < 256) (t : TypeId) :
    ∃ v, (binOp op t (.string (bytesOf a)) (.string (bytesOf b))).run P w = .ok v w ∧ z.rp ρ v := by
  have heq := map_ofNat_beq ha hb
  have hlt := ltL_eq ha hb
  have hrun : (binOp op t (.string (bytesOf a)) (.string (bytesOf b))) = Op.stringOp op (bytesOf a) (bytesOf b) := by cases op <;> rfl
  rw [hrun]
  unfold Op.stringOp
  simp only [bytesOf_tl, heq, hlt]
  cases op with
  | add =>
    obtain ⟨h1, e⟩ := bif_some (show (bif Nat.blt (Nat.add (lenL a) (lenL b)) 1000000 then sv (appL a b) else none) = some z from e)
    rw [lenL_eq, lenL_eq, blt_iff] at h1
    have h1 : a.length + b.length < 1000000 := h1
    rw [sv_eq, appL_eq] at e
    injection e with e
    subst e
    have hm : ¬ (((bytesOf a).size + (bytesOf b).size : Nat) : Int) > IntKind.i64.max := by
      rw [bytesOf_size, bytesOf_size, show IntKind.i64.max = 9223372036854775807 from rfl]
      omega
    refine ⟨.string (bytesOf a ++ bytesOf b), by dsimp only; rw [if_neg hm]; rfl, ?_⟩
    simp only [AV.rp]
    exact ⟨fun x hx => by rcases List.mem_append.1 hx with h | h; exact ha x h; exact hb x h, by rw [bytesOf_app]⟩
  | eql => simp only [strOp, bv, eqL_eq, Option.some.injEq] at e; subst e; exact ⟨_, rfl, by simp only [AV.rp]⟩
  | neq => simp only [strOp, bv, eqL_eq, Option.some.injEq] at e; subst e; exact ⟨_, rfl, by simp only [AV.rp]⟩
  | lss => simp only [strOp, bv, eqL_eq, Option.some.injEq] at e; subst e; exact ⟨_, rfl, by simp only [AV.rp]⟩
  | leq => simp only [strOp, bv, eqL_eq, Option.some.injEq] at e; subst e; exact ⟨_, rfl, by simp only [AV.rp]⟩
  | gtr => simp only [strOp, bv, eqL_eq, Option.some.injEq] at e; subst e; exact ⟨_, rfl, by simp only [AV.rp]⟩
  | geq => simp only [strOp, bv, eqL_eq, Option.some.injEq] at e; subst e; exact ⟨_, rfl, by simp only [AV.rp]⟩
  | _ => cases e
theorem unV_snd {op : UnOp} {x y : AV} {v : Value} (e : unV op x = some y) (hx : x.rp ρ v) : ∃ u, (Op.unary op v).run P w = .ok u w ∧ y.rp ρ u := by
  cases x with
  | bool b =>
    simp only [AV.rp] at hx
    subst hx
    cases op with
    | not => injection e with e; subst e; exact ⟨.bool (!b), rfl, by simp only [AV.rp]⟩
    | _ => cases e
  | int k n =>
    simp only [AV.rp] at hx
    subst hx
    cases op with
    | neg =>
      have e : iv k (Int.sub 0 n) = some y := e
      rw [iv_eq] at e
      injection e with e
      subst e
      exact ⟨.int k (k.wrap (0 - n)), rfl, by simp only [AV.rp]; rfl⟩
    | xor =>
      have e : iv k (BitVec.ofInt k.bits (if k.signed then -1 else k.max) ^^^ BitVec.ofInt k.bits n).toNat = some y := e
      rw [iv_eq] at e
      injection e with e
      subst e
      exact ⟨.int k (k.wrap (BitVec.ofInt k.bits (if k.signed then -1 else k.max) ^^^ BitVec.ofInt k.bits n).toNat), rfl, by simp only [AV.rp]⟩
    | _ => cases e
  | _ => cases op <;> cases e
/-- A bound, in the program. -/
theorem bnd1_some {d : Nat} {v : Option AV} {y j : Nat} (e : bnd1 d v y = some j) : (v = none ∧ j = d) ∨ ∃ k, v = some (.int k (j : Int)) ∧ j ≤ y := by
  cases v with
  | none => injection e with e; exact .inl ⟨rfl, e.symm⟩
  | some x =>
    cases x with
    | int k i =>
      obtain ⟨rfl, h⟩ := inI_some (show inI i (Nat.succ y) = some j from e)
      exact .inr ⟨k, rfl, by omega⟩
    | _ => cases e
/-- A value that may lack. -/
def rpo (ρ : Pm) : Option AV → Option Value → Prop
  | none, none => True
  | some x, some v => x.rp ρ v
  | _, _ => False
theorem rpo_none {ρ : Pm} {v : Option Value} (h : rpo ρ none v) : v = none := by cases v with | none => rfl | some _ => exact h.elim
theorem rpo_int {ρ : Pm} {k : IntKind} {i : Int} {v : Option Value} (h : rpo ρ (some (.int k i)) v) : v = some (.int k i) := by
  cases v with
  | none => exact h.elim
  | some v => exact congrArg some (by simpa only [rpo, AV.rp] using h)
theorem run_bound (k : IntKind) (j y : Nat) (h : j ≤ y) (code : BoundsCode) : (Instr.sliceBound (.int k (j : Int)) y code).run P w = .ok j w := by
  have : (0 : Int) ≤ j ∧ (j : Int) ≤ (y : Int) := by omega
  simp [Instr.sliceBound, asIntOf, this]
theorem bounds_snd {s : Bool} {len cap : Nat} {lo hi mx : Option AV} {m hh l : Nat} (e1 : bnd1 cap mx cap = some m) (e2 : bnd1 len hi m = some hh) (e3 : bnd1 0 lo hh = some l) (hm : mx.isSome = true → hi.isSome = true) {vl vh vm : Option Value} (hl : rpo ρ lo vl) (hhi : rpo ρ hi vh) (hmx : rpo ρ mx vm) :
    (Instr.sliceBounds s len cap vl vh vm).run P w = .ok (l, hh, m) w := by
  unfold Instr.sliceBounds
  rcases bnd1_some e1 with ⟨rfl, rfl⟩ | ⟨k1, rfl, q1⟩
  · obtain rfl := rpo_none hmx
    rcases bnd1_some e2 with ⟨rfl, rfl⟩ | ⟨k2, rfl, q2⟩
    · obtain rfl := rpo_none hhi
      rcases bnd1_some e3 with ⟨rfl, rfl⟩ | ⟨k3, rfl, q3⟩
      · obtain rfl := rpo_none hl
        simp
      · obtain rfl := rpo_int hl
        simp [run_bound _ _ _ q3]
    · obtain rfl := rpo_int hhi
      rcases bnd1_some e3 with ⟨rfl, rfl⟩ | ⟨k3, rfl, q3⟩
      · obtain rfl := rpo_none hl
        simp [run_bound _ _ _ q2]
      · obtain rfl := rpo_int hl
        simp [run_bound _ _ _ q2, run_bound _ _ _ q3]
  · obtain rfl := rpo_int hmx
    rcases bnd1_some e2 with ⟨rfl, rfl⟩ | ⟨k2, rfl, q2⟩
    · cases hm rfl
    · obtain rfl := rpo_int hhi
      rcases bnd1_some e3 with ⟨rfl, rfl⟩ | ⟨k3, rfl, q3⟩
      · obtain rfl := rpo_none hl
        simp [run_bound _ _ _ q1, run_bound _ _ _ q2]
      · obtain rfl := rpo_int hl
        simp [run_bound _ _ _ q1, run_bound _ _ _ q2, run_bound _ _ _ q3]
end
end Go.Proofs.YtlpapdknggjfkaaGreatDoor

