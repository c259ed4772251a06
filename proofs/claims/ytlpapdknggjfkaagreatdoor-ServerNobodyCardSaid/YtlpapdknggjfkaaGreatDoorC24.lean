/- The machine's append and copy, in the program. -/
import Derived.Test.YtlpapdknggjfkaaGreatDoorC23
import Derived.Deep.AppendSrc
namespace Go.Proofs.YtlpapdknggjfkaaGreatDoor
open Go.RowKit
set_option linter.unusedVariables false
set_option linter.unusedSimpArgs false
set_option linter.unusedSectionVars false
variable [Sy]

section
variable {P : Program} {w : World}
def SrcK (P : Program) (t : TypeId) : Prop := (∃ e', P.underlying t = some (.slice e')) ∨ P.underlying t = some .string
theorem app_fit {ty t t1 e : TypeId} {k : Nat} {x : Value} {n sLen cap : Nat} {vs : List Value} {a : Addr} {w' : World} (hu : P.underlying t = some (.slice e)) (hk1 : SrcK P t1)
    (hk : ∀ w, (sizeOf e).run P w = .ok k w) (hn : (Builtin.lenOf x).run P w = .ok n w) (hc : (Builtin.firstCells k n x).run P w = .ok vs.toArray w) (hfit : sLen + n ≤ cap) (hst : (storeCells (a.add (sLen * k)) vs).run P w = .ok () w') :
    (Builtin.append_ #[t, t1] ty #[.slice (some a) sLen cap, x]).run P w = .ok (.slice (some a) (sLen + n) cap) w' := by
  rcases hk1 with ⟨e', hu1⟩ | hu1 <;> simp [Builtin.append_, run_underlying hu, run_underlying hu1, hk, hn, hc, hfit, hst]
theorem app_none {ty t t1 e : TypeId} {k : Nat} {x : Value} {cap : Nat} (hu : P.underlying t = some (.slice e)) (hk1 : SrcK P t1)
    (hk : ∀ w, (sizeOf e).run P w = .ok k w) (hn : (Builtin.lenOf x).run P w = .ok 0 w) (hc : (Builtin.firstCells k 0 x).run P w = .ok #[] w) :
    (Builtin.append_ #[t, t1] ty #[.slice none 0 cap, x]).run P w = .ok (.slice none 0 cap) w := by
  rcases hk1 with ⟨e', hu1⟩ | hu1 <;> simp [Builtin.append_, run_underlying hu, run_underlying hu1, hk, hn, hc]
theorem growBy_le (m : Nat) : ∀ (r c : Nat), c ≤ m → 256 ≤ c → Builtin.growBy m r c ≤ 2 * m
  | 0, c, h, _ => by unfold Builtin.growBy; omega
  | r + 1, c, h, h2 => by
    unfold Builtin.growBy
    split
    · omega
    · by_cases h3 : c + (c + 768) / 4 ≤ m
      · exact growBy_le m r _ h3 (by omega)
      · cases r with
        | zero => unfold Builtin.growBy; omega
        | succ r => unfold Builtin.growBy; rw [if_pos (by omega)]; omega
theorem next_le {m c : Nat} (h : c < m) : Builtin.nextslicecap m c ≤ 2 * m := by
  unfold Builtin.nextslicecap
  split
  · omega
  · split
    · omega
    · exact growBy_le m 4 c (by omega) (by omega)
theorem app_grow {ty t t1 e : TypeId} {i : TypeInfo} {z x : Value} {n sLen cap : Nat} {olds vs : List Value} {a : Option Addr} (hu : P.underlying t = some (.slice e)) (hk1 : SrcK P t1)
    (hi : P.info? e = some i) (hz : i.zero = some z) (hn : (Builtin.lenOf x).run P w = .ok n w) (hc : (Builtin.firstCells i.size n x).run P w.drew = .ok vs.toArray w.drew)
    (ho : (Builtin.firstCells i.size sLen (.slice a sLen cap)).run P w.drew = .ok olds.toArray w.drew) (hg : cap < sLen + n) (hb : i.bytes ≤ 10000) (hneed : sLen + n ≤ 1000000) :
    (Builtin.append_ #[t, t1] ty #[.slice a sLen cap, x]).run P w = .ok (.slice (some ⟨w.heap.size, 0, none⟩) (sLen + n) (grownCap w (sLen + n) cap e))
      (w.drew.alloc (.cells ((olds ++ vs).toArray ++ Builtin.zeroCells z.cells (grownCap w (sLen + n) cap e - (sLen + n))) e)) := by
  have h48 : ¬ (281474976710656 < Builtin.nextslicecap (sLen + n) cap * i.bytes) := by
    have := Nat.mul_le_mul (next_le hg) hb
    omega
  have hn' : ¬ (sLen + n ≤ cap) := by omega
  have h63' : ¬ (9223372036854775807 < ((sLen : Int) + (n : Int))) := by omega
  rcases hk1 with ⟨e', hk⟩ | hk <;>
    (simp [Builtin.append_, run_underlying hu, run_underlying hk, sizeOf, typeInfo, zeroValue, hi, hz, hn, hn', h63', h48, Question.forced, hc, ho, newRow, grownCap]
     congr 2
     apply Array.ext'
     simp [List.append_assoc])
/-- 'append(s, make(..)...)': so many zero elements. -/
theorem appz_fit {ty t t1 e : TypeId} {kk : IntKind} {i : TypeInfo} {z : Value} {n sLen cap : Nat} {a : Addr} {w' : World} (hu : P.underlying t = some (.slice e)) (hu1 : P.underlying t1 = some (.int kk))
    (hi : P.info? e = some i) (hz : i.zero = some z) (hb : i.bytes ≤ 10000) (hn : n ≤ 10000) (hfit : sLen + n ≤ cap) (hst : (storeCells (a.add (sLen * i.size)) (if n * i.size = 0 then [] else (Builtin.zeroCells z.cells n).toList)).run P w = .ok () w') :
    (Builtin.append_ #[t, t1] ty #[.slice (some a) sLen cap, .int .i64 (n : Int)]).run P w = .ok (.slice (some a) (sLen + n) cap) w' := by
  have hw : IntKind.i64.wrap (n : Int) = (n : Int) := IntWalk.i64_in _ (by omega)
  have h0 : ¬ ((n : Int) < 0) := by omega
  have h48 : ¬ (281474976710656 < (n : Int) * (i.bytes : Int)) := by
    have : n * i.bytes ≤ 10000 * 10000 := Nat.mul_le_mul hn hb
    have h2 : ((n * i.bytes : Nat) : Int) ≤ ((10000 * 10000 : Nat) : Int) := by exact_mod_cast this
    rw [Int.natCast_mul] at h2
    omega
  by_cases hz0 : n * i.size = 0
  · rw [if_pos hz0] at hst
    simp [Builtin.append_, run_underlying hu, run_underlying hu1, sizeOf, typeInfo, zeroValue, hi, hz, asInt, asIntOf, hw, h0, h48, hfit, hz0, hst]
  · rw [if_neg hz0] at hst
    simp [Builtin.append_, run_underlying hu, run_underlying hu1, sizeOf, typeInfo, zeroValue, hi, hz, asInt, asIntOf, hw, h0, h48, hfit, hz0, hst]
end
end Go.Proofs.YtlpapdknggjfkaaGreatDoor

