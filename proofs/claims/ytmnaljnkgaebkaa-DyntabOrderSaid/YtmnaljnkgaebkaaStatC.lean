/- What static.Find returns: the place of a field, or of its name. -/
import Derived.Test.YtmnaljnkgaebkaaStatB
import Derived.Test.YtmnaljnkgaebkaaDecS
namespace Go.Proofs.Ytmnaljnkgaebkaa
open Go.RowKit
set_option linter.unusedVariables false
set_option linter.unusedSimpArgs false

/-- The first place of a name among the first k. -/
def Named (n : ByteArray) (k m : Nat) : Prop := (m = 0 ∧ ∀ j, j < k → stN j ≠ n) ∨ ∃ q, q < k ∧ m = q + 1 ∧ stN q = n ∧ ∀ j, j < q → stN j ≠ n
def NoExact (n v : ByteArray) (k : Nat) : Prop := ∀ j, j < k → ¬ (stN j = n ∧ stV j = v)
/-- What is found: place and whether the value is there, too. -/
def SFound (n v : ByteArray) (p : Nat) (x : Bool) : Prop :=
  (x = true ∧ ∃ k, k < 61 ∧ p = k + 1 ∧ stN k = n ∧ stV k = v ∧ NoExact n v k) ∨ (x = false ∧ NoExact n v 61 ∧ Named n 61 p)
theorem Named.skip {n : ByteArray} {k m : Nat} (h : Named n k m) (hk : stN k ≠ n) : Named n (k + 1) m := by
  rcases h with ⟨h1, h2⟩ | ⟨q, h1, h2, h3, h4⟩
  · exact .inl ⟨h1, fun j hj => by by_cases e : j = k; · subst e; exact hk
                                   · exact h2 j (by omega)⟩
  · exact .inr ⟨q, by omega, h2, h3, h4⟩
theorem Named.keep {n : ByteArray} {k m : Nat} (h : Named n k m) (hm : m ≠ 0) : Named n (k + 1) m := by
  rcases h with ⟨h1, h2⟩ | ⟨q, h1, h2, h3, h4⟩
  · exact absurd h1 hm
  · exact .inr ⟨q, by omega, h2, h3, h4⟩
theorem Named.new {n : ByteArray} {k m : Nat} (h : Named n k m) (hm : m = 0) (hk : stN k = n) : Named n (k + 1) (k + 1) := by
  rcases h with ⟨h1, h2⟩ | ⟨q, h1, h2, h3, h4⟩
  · exact .inr ⟨k, by omega, rfl, hk, h2⟩
  · omega
theorem Named.le {n : ByteArray} {k m : Nat} (h : Named n k m) : m ≤ k := by
  rcases h with ⟨h1, h2⟩ | ⟨q, h1, h2, h3, h4⟩ <;> omega
theorem NoExact.step {n v : ByteArray} {k : Nat} (h : NoExact n v k) (hk : ¬ (stN k = n ∧ stV k = v)) : NoExact n v (k + 1) := fun j hj => by
  by_cases e : j = k
  · subst e; exact hk
  · exact h j (by omega)
theorem toList_eq {a b : ByteArray} (h : a = b) : (a.toList == b.toList) = true := by subst h; exact beq_self_eq_true _
def SFindPost (n v : ByteArray) (w : World) (e : Ending) (w' : World) : Prop :=
  ∃ (p : Nat) (x : Bool), SFound n v p x ∧ e = .returned (.tuple #[.int .i64 (p : Int), .bool x]) ∧ Below w.heap.size w w'
set_option maxRecDepth 100000 in
set_option maxHeartbeats 2000000 in
theorem sfind_any (n v : ByteArray) (w : World) : Calls Try.prog 65 #[.string n, .string v] w (SFindPost n v w) := by
  go_enter Try.func65, Try.ntmps65
  go_wp2_with fail
  refine (fields_any _).mono ?_
  rintro e w1 ⟨rfl, hb⟩
  have HB1 := Lib.hid hb
  clear hb
  generalize hF : stF = F
  have HIX := Lib.hid (show ∀ k : Nat, k < 61 → ∀ w, (Instr.index 153 (.agg F) (.int .i64 (k : Int))).run Try.prog w = .ok (.agg #[.string (stN k), .string (stV k), .bool false]) w from by subst hF; exact st_index)
  clear hF
  go_wp2_with fail
  go_loopw [6, 10] (fun nm i wr => ∃ k m : Nat, k ≤ 61 ∧ i = .int .i64 k ∧ nm = .int .i64 m ∧ NoExact n v k ∧ Named n k m ∧ Below w.heap.size w wr) (fun _ i _ => 61 - (intOf i).toNat)
  case atStart => exact ⟨0, 0, by omega, rfl, rfl, (fun j hj => by omega), .inl ⟨rfl, fun j hj => by omega⟩, HB1.out⟩
  case round =>
    obtain ⟨k, m, hk, rfl, rfl, hne, hnm, bk⟩ := hrel
    have HNE := Lib.hid hne
    have HNM := Lib.hid hnm
    have HB := Lib.hid bk
    have hm := hnm.le
    clear hne hnm bk
    by_cases hlt : k < 61
    · have hki : (k : Int) < 61 := by omega
      have hx := HIX.out k hlt wr
      have BK := Lib.hid (HB.out.alloc HB.out.size (.cells #[.string (stN k), .string (stV k), .bool false] 50))
      by_cases hn : stN k = n
      · have hn1 := toList_eq hn
        have HN := Lib.hid hn
        by_cases hv : stV k = v
        · have hv1 := toList_eq hv
          have HV := Lib.hid hv
          clear hn hv
          go_wp2_with fail
          refine bodyPost_ret (v := .tuple #[.int .i64 ((k : Int) + 1), .bool true]) (by simp [results, Try.results65, go_sem]) rfl ⟨k + 1, true, .inl ⟨rfl, k, hlt, rfl, HN.out, HV.out, HNE.out⟩, by simp, BK.out⟩
        · have hv1 := toList_ne hv
          have HNE2 := Lib.hid (HNE.out.step (fun h => hv h.2))
          clear hn hv
          by_cases hm0 : m = 0
          · have HNM2 := Lib.hid (HNM.out.new hm0 HN.out)
            subst hm0
            go_wp2_with fail
            go_roundw
            case rel => exact ⟨k + 1, k + 1, by omega, by go_num, by go_num, HNE2.out, HNM2.out, BK.out⟩
            case measure => simp [intOf]; try omega
          · have HNM2 := Lib.hid (HNM.out.keep hm0)
            have hmi : ((m : Int) == 0) = false := by simp; omega
            clear hm0
            go_wp2_with fail
            go_roundw
            case rel => exact ⟨k + 1, m, by omega, by go_num, rfl, HNE2.out, HNM2.out, BK.out⟩
            case measure => simp [intOf]; try omega
      · have hn1 := toList_ne hn
        have HNE2 := Lib.hid (HNE.out.step (fun h => hn h.1))
        have HNM2 := Lib.hid (HNM.out.skip hn)
        clear hn
        go_wp2_with fail
        go_roundw
        case rel => exact ⟨k + 1, m, by omega, by go_num, rfl, HNE2.out, HNM2.out, BK.out⟩
        case measure => simp [intOf]; try omega
    · obtain rfl : k = 61 := by omega
      go_wp2_with fail
      refine bodyPost_ret (v := .tuple #[.int .i64 (m : Int), .bool false]) (by simp [results, Try.results65, go_sem]) rfl ⟨m, false, .inr ⟨rfl, HNE.out, HNM.out⟩, rfl, HB.out⟩
end Go.Proofs.Ytmnaljnkgaebkaa
