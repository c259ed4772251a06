/- StatC · Flds · FldS · FldT: joined by a program, for a claim has at most 60 files. -/
import Derived.Test.YteceinojmdgmeaaC19
import Derived.Test.YteceinojmdgmeaaC11
/- What static.Find returns: the place of a field, or of its name. -/
namespace Go.Proofs.Yteceinojmdgmeaa
open Go.RowKit
set_option linter.unusedVariables false
set_option linter.unusedSimpArgs false

/-- The first place of a name among the first k. -/
def Named (n : ByteArray) (k m : Nat) : Prop := (m = 0 ∧ ∀ j, j < k → stN j ≠ n) ∨ ∃ q, q < k ∧ m = q + 1 ∧ stN q = n ∧ ∀ j, j < q → stN j ≠ n
def NoExact (n v : ByteArray) (k : Nat) : Prop := ∀ j, j < k → ¬ (stN j = n ∧ stV j = v)
/-- What is found: place and whether the value is there, too. -/
def SFound (n v : ByteArray) (p : Nat) (x : Bool) : Prop :=
  (x = true ∧ ∃ k, k < 61 ∧ p = k + 1 ∧ stN k = n ∧ stV k = v ∧ NoExact n v k) ∨ (x = false ∧ NoExact n v 61 ∧ Named n 61 p)
theorem Named.skip {n : ByteArray} {k m : Nat} (h : Named n k m) (hk : stN k ≠ n) : Named n (k + 1) m := by
  rcases h with ⟨h1, h2⟩ | ⟨q, h1, h2, h3, h4⟩
  · exact .inl ⟨h1, fun j hj => by by_cases e : j = k; · subst e; exact hk
                                   · exact h2 j (by omega)⟩
  · exact .inr ⟨q, by omega, h2, h3, h4⟩
theorem Named.keep {n : ByteArray} {k m : Nat} (h : Named n k m) (hm : m ≠ 0) : Named n (k + 1) m := by
  rcases h with ⟨h1, h2⟩ | ⟨q, h1, h2, h3, h4⟩
  · exact absurd h1 hm
  · exact .inr ⟨q, by omega, h2, h3, h4⟩
theorem Named.new {n : ByteArray} {k m : Nat} (h : Named n k m) (hm : m = 0) (hk : stN k = n) : Named n (k + 1) (k + 1) := by
  rcases h with ⟨h1, h2⟩ | ⟨q, h1, h2, h3, h4⟩
  · exact .inr ⟨k, by omega, rfl, hk, h2⟩
  · omega
theorem Named.le {n : ByteArray} {k m : Nat} (h : Named n k m) : m ≤ k := by
  rcases h with ⟨h1, h2⟩ | ⟨q, h1, h2, h3, h4⟩ <;> omega
theorem NoExact.step {n v : ByteArray} {k : Nat} (h : NoExact n v k) (hk : ¬ (stN k = n ∧ stV k = v)) : NoExact n v (k + 1) := fun j hj => by
  by_cases e : j = k
  · subst e; exact hk
  · exact h j (by omega)
theorem toList_eq {a b : ByteArray} (h : a = b) : (a.toList == b.toList) = true := by subst h; exact beq_self_eq_true _
def SFindPost (n v : ByteArray) (w : World) (e : Ending) (w' : World) : Prop :=
  ∃ (p : Nat) (x : Bool), SFound n v p x ∧ e = .returned (.tuple #[.int .i64 (p : Int), .bool x]) ∧ Below w.heap.size w w'
set_option maxRecDepth 100000 in
set_option maxHeartbeats 2000000 in
theorem sfind_any (n v : ByteArray) (w : World) : Calls Try.prog 54 #[.string n, .string v] w (SFindPost n v w) := by
  go_enter Try.func54, Try.ntmps54
  go_wp2_with fail
  refine (fields_any _).mono ?_
  rintro e w1 ⟨rfl, hb⟩
  have HB1 := Lib.hid hb
  clear hb
  generalize hF : stF = F
  have HIX := Lib.hid (show ∀ k : Nat, k < 61 → ∀ w, (Instr.index 131 (.agg F) (.int .i64 (k : Int))).run Try.prog w = .ok (.agg #[.string (stN k), .string (stV k), .bool false]) w from by subst hF; exact st_index)
  clear hF
  go_wp2_with fail
  go_loopw [6, 10] (fun nm i wr => ∃ k m : Nat, k ≤ 61 ∧ i = .int .i64 k ∧ nm = .int .i64 m ∧ NoExact n v k ∧ Named n k m ∧ Below w.heap.size w wr) (fun _ i _ => 61 - (intOf i).toNat)
  case atStart => exact ⟨0, 0, by omega, rfl, rfl, (fun j hj => by omega), .inl ⟨rfl, fun j hj => by omega⟩, HB1.out⟩
  case round =>
    obtain ⟨k, m, hk, rfl, rfl, hne, hnm, bk⟩ := hrel
    have HNE := Lib.hid hne
    have HNM := Lib.hid hnm
    have HB := Lib.hid bk
    have hm := hnm.le
    clear hne hnm bk
    by_cases hlt : k < 61
    · have hki : (k : Int) < 61 := by omega
      have hx := HIX.out k hlt wr
      have BK := Lib.hid (HB.out.alloc HB.out.size (.cells #[.string (stN k), .string (stV k), .bool false] 25))
      by_cases hn : stN k = n
      · have hn1 := toList_eq hn
        have HN := Lib.hid hn
        by_cases hv : stV k = v
        · have hv1 := toList_eq hv
          have HV := Lib.hid hv
          clear hn hv
          go_wp2_with fail
          refine bodyPost_ret (v := .tuple #[.int .i64 ((k : Int) + 1), .bool true]) (by simp [results, Try.results54, go_sem]) rfl ⟨k + 1, true, .inl ⟨rfl, k, hlt, rfl, HN.out, HV.out, HNE.out⟩, by simp, BK.out⟩
        · have hv1 := toList_ne hv
          have HNE2 := Lib.hid (HNE.out.step (fun h => hv h.2))
          clear hn hv
          by_cases hm0 : m = 0
          · have HNM2 := Lib.hid (HNM.out.new hm0 HN.out)
            subst hm0
            go_wp2_with fail
            go_roundw
            case rel => exact ⟨k + 1, k + 1, by omega, by go_num, by go_num, HNE2.out, HNM2.out, BK.out⟩
            case measure => simp [intOf]; try omega
          · have HNM2 := Lib.hid (HNM.out.keep hm0)
            have hmi : ((m : Int) == 0) = false := by simp; omega
            clear hm0
            go_wp2_with fail
            go_roundw
            case rel => exact ⟨k + 1, m, by omega, by go_num, rfl, HNE2.out, HNM2.out, BK.out⟩
            case measure => simp [intOf]; try omega
      · have hn1 := toList_ne hn
        have HNE2 := Lib.hid (HNE.out.step (fun h => hn h.1))
        have HNM2 := Lib.hid (HNM.out.skip hn)
        clear hn
        go_wp2_with fail
        go_roundw
        case rel => exact ⟨k + 1, m, by omega, by go_num, rfl, HNE2.out, HNM2.out, BK.out⟩
        case measure => simp [intOf]; try omega
    · obtain rfl : k = 61 := by omega
      go_wp2_with fail
      refine bodyPost_ret (v := .tuple #[.int .i64 (m : Int), .bool false]) (by simp [results, Try.results54, go_sem]) rfl ⟨m, false, .inr ⟨rfl, HNE.out, HNM.out⟩, rfl, HB.out⟩
end Go.Proofs.Yteceinojmdgmeaa


/- Fields in memory; whether they are light; what a table counts. -/
namespace Go.Proofs.Yteceinojmdgmeaa
open Go.RowKit
set_option linter.unusedVariables false
set_option linter.unusedSimpArgs false

structure Fld where
  name : ByteArray
  value : ByteArray
  never : Bool
instance : Inhabited Fld := ⟨⟨ByteArray.empty, ByteArray.empty, false⟩⟩
def Fld.val (f : Fld) : Value := .agg #[.string f.name, .string f.value, .bool f.never]
/-- Fields in memory. -/
def FieldsN (W : World) (oa : Option Addr) (L : List Fld) : Prop := ∀ i f, L[i]? = some f → ∃ b o, oa = some ⟨b, o, none⟩ ∧
  W.cell? ⟨b, o + i * 3, none⟩ = some (.string f.name) ∧ W.cell? ⟨b, o + i * 3 + 1, none⟩ = some (.string f.value) ∧ W.cell? ⟨b, o + i * 3 + 2, none⟩ = some (.bool f.never)
theorem FieldsN.below {W W' : World} {oa : Option Addr} {L : List Fld} (h : FieldsN W oa L) (hn : Below W.heap.size W W') : FieldsN W' oa L := by
  intro i f hf
  obtain ⟨b, o, ha, h1, h2, h3⟩ := h i f hf
  have e : W'.heap[b]? = W.heap[b]? := hn.block b (World.block_lt_of_cell? _ _ h1)
  exact ⟨b, o, ha, (cell_eq0 e).trans h1, (cell_eq0 e).trans h2, (cell_eq0 e).trans h3⟩
def lightF (f : Fld) : Bool := decide (f.name.size ≤ 40000) && decide (f.value.size ≤ 40000)
def lt200 (f : Fld) : Bool := decide (f.name.size ≤ 200) && decide (f.value.size ≤ 200)
def light (L : List Fld) : Bool := decide (L.length ≤ 30) && L.all lt200
theorem lt200.lightF {f : Fld} (h : lt200 f = true) : lightF f = true := by
  simp only [lt200, Bool.and_eq_true, decide_eq_true_eq] at h
  simp only [Go.Proofs.Yteceinojmdgmeaa.lightF, Bool.and_eq_true, decide_eq_true_eq]
  omega
theorem light.all {L : List Fld} (h : light L = true) : ∀ f ∈ L, lightF f = true := by
  unfold light at h
  rw [Bool.and_eq_true, List.all_eq_true] at h
  exact fun f hf => lt200.lightF (h.2 f hf)
theorem light.len {L : List Fld} (h : light L = true) : L.length ≤ 30 := by
  unfold light at h
  rw [Bool.and_eq_true] at h
  simpa using h.1
set_option maxRecDepth 100000 in
set_option maxHeartbeats 1000000 in
theorem light_any (oa : Option Addr) (n cap : Nat) (L : List Fld) (hn : L.length = n) (w : World) (hf : FieldsN w oa L) :
    Calls Try.prog 31 #[.slice oa n cap] w fun e w' => e = .returned (.bool (light L)) ∧ w' = w := by
  have HN := Lib.hid hn
  have HF := Lib.hid hf
  clear hn hf
  by_cases h30 : n ≤ 30
  · have h30i : (n : Int) ≤ 30 := by omega
    go_enter Try.func31, Try.ntmps31
    go_wp2_with fail
    go_loopw [3] (fun i wr => ∃ k : Nat, k ≤ n ∧ i = .int .i64 k ∧ (L.take k).all lt200 = true ∧ wr = w) (fun i _ => n - (intOf i).toNat)
    case atStart => exact ⟨0, Nat.zero_le _, rfl, by simp, rfl⟩
    case round =>
      obtain ⟨k, hk, rfl, hall, rfl⟩ := hrel
      have HA := Lib.hid hall
      clear hall
      by_cases hlt : k < n
      · have hki : (k : Int) < (n : Int) := by omega
        have hkL : k < L.length := by rw [HN.out]; exact hlt
        obtain ⟨b, o, rfl, h1, h2, h3⟩ := HF.out k L[k] (List.getElem?_eq_getElem hkL)
        have HT := Lib.hid (show (L.take (k + 1)).all lt200 = lt200 L[k] from by
          rw [List.take_succ_eq_append_getElem hkL, List.all_append, HA.out]; simp)
        have HNO := Lib.hid (show lt200 L[k] = false → light L = false from fun h => by
          unfold light
          rw [Bool.and_eq_false_iff]
          right
          rw [List.all_eq_false]
          exact ⟨L[k], List.getElem_mem hkL, by simp [h]⟩)
        generalize L[k] = f at h1 h2 h3 HT HNO
        obtain ⟨nm, vl, nv⟩ := f
        simp only at h1 h2 h3
        by_cases hs1 : nm.size ≤ 200
        · have hs1i : decide ((200 : Int) < ((nm.size : Nat) : Int)) = false := by simp; omega
          by_cases hs2 : vl.size ≤ 200
          · have hs2i : decide ((200 : Int) < ((vl.size : Nat) : Int)) = false := by simp; omega
            have HL := Lib.hid (show lt200 ⟨nm, vl, nv⟩ = true from by simp [lt200, hs1, hs2])
            clear h3
            go_wp2_with fail
            go_roundw
            case rel => exact ⟨k + 1, by omega, by go_num, by rw [HT.out, HL.out], by trivial⟩
            case measure => simp [intOf]; omega
          · have hs2i : decide ((200 : Int) < ((vl.size : Nat) : Int)) = true := by simp; omega
            have HL := Lib.hid (HNO.out (show lt200 ⟨nm, vl, nv⟩ = false from by simp [lt200, hs2]))
            clear h3
            go_wp2_with fail
            refine bodyPost_ret (v := .bool false) (by simp [results, Try.results31, go_sem]) rfl ⟨by rw [HL.out], rfl⟩
        · have hs1i : decide ((200 : Int) < ((nm.size : Nat) : Int)) = true := by simp; omega
          have HL := Lib.hid (HNO.out (show lt200 ⟨nm, vl, nv⟩ = false from by simp [lt200, hs1]))
          clear h3
          go_wp2_with fail
          refine bodyPost_ret (v := .bool false) (by simp [results, Try.results31, go_sem]) rfl ⟨by rw [HL.out], rfl⟩
      · obtain rfl : k = n := by omega
        have HL := Lib.hid (show light L = true from by
          unfold light
          rw [Bool.and_eq_true]
          have := HA.out
          rw [List.take_of_length_le (by rw [HN.out]; exact Nat.le_refl _)] at this
          exact ⟨by simpa using (by rw [HN.out]; exact h30 : L.length ≤ 30), this⟩)
        go_wp2_with fail
        refine bodyPost_ret (v := .bool true) (by simp [results, Try.results31, go_sem]) rfl ⟨by rw [HL.out], rfl⟩
  · have h30i : (30 : Int) < (n : Int) := by omega
    have HL := Lib.hid (show light L = false from by
      unfold light
      rw [Bool.and_eq_false_iff]
      left
      simp only [decide_eq_false_iff_not]
      rw [HN.out]; exact h30)
    go_enter Try.func31, Try.ntmps31
    go_wp2_with fail
    refine bodyPost_ret (v := .bool false) (by simp [results, Try.results31, go_sem]) rfl ⟨by rw [HL.out], rfl⟩
end Go.Proofs.Yteceinojmdgmeaa


/- What a table's fields count: dyntab.Size and the document's Sum and Size. -/
namespace Go.Proofs.Yteceinojmdgmeaa
open Go.RowKit
set_option linter.unusedVariables false
set_option linter.unusedSimpArgs false

def Fld.sz (f : Fld) : Nat := f.name.size + f.value.size + 32
def sumF : List Fld → Nat
  | [] => 0
  | f :: l => f.sz + sumF l
theorem sumF_append (a b : List Fld) : sumF (a ++ b) = sumF a + sumF b := by
  induction a with
  | nil => simp [sumF]
  | cons x l ih => simp only [List.cons_append, sumF, ih]; omega
theorem sumF_take (L : List Fld) (k : Nat) (h : k < L.length) : sumF (L.take (k + 1)) = sumF (L.take k) + L[k].sz := by
  rw [List.take_succ_eq_append_getElem h, sumF_append]
  simp [sumF]
theorem sumF_le (L : List Fld) (k : Nat) (hl : ∀ f ∈ L, lightF f = true) : sumF (L.take k) ≤ 80032 * k := by
  induction k with
  | zero => simp [sumF]
  | succ k ih =>
    by_cases h : k < L.length
    · have := hl L[k] (List.getElem_mem h)
      simp only [lightF, Bool.and_eq_true, decide_eq_true_eq] at this
      rw [sumF_take L k h]
      unfold Fld.sz
      omega
    · rw [List.take_of_length_le (by omega)]
      rw [List.take_of_length_le (by omega)] at ih
      omega
def tabV (m : Int) (oa : Option Addr) (n cap : Nat) : Value := .agg #[.int .i64 m, .slice oa n cap]
set_option maxRecDepth 100000 in
set_option maxHeartbeats 1000000 in
theorem size_tab (m : Int) (oa : Option Addr) (n cap : Nat) (L : List Fld) (hn : L.length = n) (hl : ∀ f ∈ L, lightF f = true) (hn30 : n ≤ 1000) (w : World) (hf : FieldsN w oa L) :
    Calls Try.prog 71 #[.agg #[.int .i64 m, .slice oa n cap]] w fun e w' => e = .returned (.int .i64 (sumF L : Nat)) ∧ Below w.heap.size w w' := by
  have HN := Lib.hid hn
  have HF := Lib.hid hf
  have HL := Lib.hid hl
  clear hn hf hl
  go_enter Try.func71, Try.ntmps71
  go_wp2_with fail
  go_loopw [3, 9] (fun s i wr => ∃ k : Nat, k ≤ n ∧ i = .int .i64 k ∧ s = .int .i64 (sumF (L.take k) : Nat) ∧ Below w.heap.size w wr) (fun _ i _ => n - (intOf i).toNat)
  case atStart => exact ⟨0, Nat.zero_le _, rfl, rfl, (Below.refl _ _).alloc (Nat.le_refl _) _⟩
  case round =>
    obtain ⟨k, hk, rfl, rfl, bk⟩ := hrel
    have BK := Lib.hid bk
    clear bk
    by_cases hlt : k < n
    · have hki : (k : Int) < (n : Int) := by omega
      have hkL : k < L.length := by rw [HN.out]; exact hlt
      have hsl := sumF_le L k HL.out
      have HT := Lib.hid (sumF_take L k hkL)
      have hlf := HL.out L[k] (List.getElem_mem hkL)
      obtain ⟨b, o, rfl, h1, h2, h3⟩ := (HF.out.below BK.out) k L[k] (List.getElem?_eq_getElem hkL)
      generalize L[k] = f at h1 h2 h3 HT hlf
      obtain ⟨nm, vl, nv⟩ := f
      simp only [Fld.sz, lightF, Bool.and_eq_true, decide_eq_true_eq] at h1 h2 h3 HT hlf
      generalize sumF (L.take k) = S at hsl HT ⊢
      go_wp2_with fail
      refine (field_size nm vl nv (by omega) (by omega) _).mono ?_
      rintro e w5 ⟨rfl, hb⟩
      have B5 := Lib.hid ((BK.out.alloc BK.out.size _).trans (hb.mono (by have := BK.out.size; simp; omega)))
      clear hb
      have hw : IntKind.i64.wrap ((S : Int) + ((nm.size : Int) + (vl.size : Int) + 32)) = ((S + (nm.size + vl.size + 32) : Nat) : Int) := by
        rw [show (S : Int) + ((nm.size : Int) + (vl.size : Int) + 32) = ((S + (nm.size + vl.size + 32) : Nat) : Int) from by simp]
        exact IntWalk.i64_in _ (by omega)
      go_wp2_with fail
      go_roundw
      case rel => exact ⟨k + 1, by omega, by go_num, by rw [HT.out]; simp, B5.out⟩
      case measure => simp [intOf]; omega
    · obtain rfl : k = n := by omega
      rw [List.take_of_length_le (by rw [HN.out]; exact Nat.le_refl _)]
      go_wp2_with fail
      go_ret
      exact ⟨rfl, BK.out⟩
end Go.Proofs.Yteceinojmdgmeaa


/- The field at a place: dyntab.At. -/
namespace Go.Proofs.Yteceinojmdgmeaa
open Go.RowKit
set_option linter.unusedVariables false
set_option linter.unusedSimpArgs false

def zeroF : Fld := ⟨ByteArray.empty, ByteArray.empty, false⟩
/-- What stands at a place, and whether anything does. -/
def atF (L : List Fld) (i : Int) : Fld × Bool :=
  if i < 1 then (zeroF, false) else if i ≤ 61 then (⟨stN (i - 1).toNat, stV (i - 1).toNat, false⟩, true) else match L[(i - 62).toNat]? with | some f => (f, true) | none => (zeroF, false)
def AtPost (L : List Fld) (i : Int) (w : World) (e : Ending) (w' : World) : Prop := e = .returned (.tuple #[.agg #[.string (atF L i).1.name, .string (atF L i).1.value, .bool (atF L i).1.never], .bool (atF L i).2]) ∧ Below w.heap.size w w'
set_option maxRecDepth 100000 in
set_option maxHeartbeats 1000000 in
theorem dAt_any (m : Int) (oa : Option Addr) (n cap : Nat) (L : List Fld) (hn : L.length = n) (i : Int) (hi : (Lit.int .i64 i).wf = true) (w : World) (hf : FieldsN w oa L) :
    Calls Try.prog 85 #[.agg #[.int .i64 m, .slice oa n cap], .int .i64 i] w (AtPost L i w) := by
  have e1 : IntKind.i64.min = -9223372036854775808 := rfl
  have e2 : IntKind.i64.max = 9223372036854775807 := rfl
  simp only [Lit.wf, Bool.and_eq_true, decide_eq_true_eq, e1, e2] at hi
  clear e1 e2
  have HN := Lib.hid hn
  have HF := Lib.hid hf
  clear hn hf
  by_cases h61 : i ≤ 61
  · have hS : ∃ (f : Fld) (x : Bool), atF L i = (f, x) ∧ ∀ W, Calls Try.prog 92 #[.int .i64 i] W fun e w' => e = .returned (.tuple #[.agg #[.string f.name, .string f.value, .bool f.never], .bool x]) ∧ Below W.heap.size W w' := by
      by_cases h1 : i < 1
      · exact ⟨zeroF, false, by unfold atF; rw [if_pos h1], fun W => stAt_out i (.inl h1) W⟩
      · refine ⟨⟨stN (i - 1).toNat, stV (i - 1).toNat, false⟩, true, by unfold atF; rw [if_neg h1, if_pos h61], fun W => stAt_in (i - 1).toNat (by omega) i (by omega) W⟩
    obtain ⟨⟨nm, vl, nv⟩, x, hat, hc⟩ := hS
    have HAT := Lib.hid hat
    have HC := Lib.hid hc
    clear hat hc
    go_enter Try.func85, Try.ntmps85
    go_wp2_with fail
    refine (HC.out _).mono ?_
    rintro e w1 ⟨rfl, hb⟩
    simp only
    have h9 : (w.alloc (.cells #[.int .i64 m, .slice oa n cap] 28)).heap.size = w.heap.size + 1 := Array.size_push _
    have hrow : w1.heap[w.heap.size + 1]? = some (.cells #[.string ByteArray.empty, .string ByteArray.empty, .bool false] 25 (0, 0)) := by
      rw [hb.block (w.heap.size + 1) (by simp), ← h9]
      exact heap_alloc_new _ _
    clear h9
    have hB : Below w.heap.size w (w1.setRow (w.heap.size + 1) #[.string nm, .string vl, .bool nv]) := below_setRow ((((Below.refl _ _).alloc (Nat.le_refl _) _).alloc (by simp) _).trans (hb.mono (by simp; omega))) (by omega) _
    have HB := Lib.hid hB
    have HR2 := Lib.hid (setRow_heap _ _ _ #[.string nm, .string vl, .bool nv] _ _ hrow)
    clear hb hB
    go_wp2_with (refine wpList_store_row rfl _ _ _ rfl (w.heap.size + 1) #[.string nm, .string vl, .bool nv] rfl rfl _ _ hrow (by kernel_rfl) (by kernel_rfl) (by kernel_rfl) ?_)
    have q : ∀ j : Nat, (w1.setRow (w.heap.size + 1) #[.string nm, .string vl, .bool nv]).cell? ⟨w.heap.size + 1, j, none⟩ = #[Value.string nm, .string vl, .bool nv][j]? := fun j => cell_of_row _ _ _ _ _ _ HR2.out
    have q0 := q 0
    have q1 := q 1
    have q2 := q 2
    clear q
    refine bodyPost_ret (v := .tuple #[.agg #[.string nm, .string vl, .bool nv], .bool x]) (by simp [results, Try.results85, go_sem, q0, q1, q2]) rfl ⟨by rw [HAT.out], HB.out⟩
  · have h61b : decide (i ≤ 61) = false := by simp; omega
    have hw : IntKind.i64.wrap (i - 62) = i - 62 := IntWalk.i64_in _ (by omega)
    have h1 : ¬ i < 1 := by omega
    by_cases hlt : i - 62 < (n : Int)
    · obtain ⟨k, hk⟩ : ∃ k : Nat, i - 62 = (k : Int) := ⟨(i - 62).toNat, by omega⟩
      have hkL : k < L.length := by rw [HN.out]; omega
      have HAT := Lib.hid (show atF L i = (L[k], true) from by
        unfold atF
        rw [if_neg h1, if_neg h61, hk, Int.toNat_natCast, List.getElem?_eq_getElem hkL])
      have hwk : IntKind.i64.wrap (i - 62) = (k : Int) := hw.trans hk
      rw [hk] at hlt
      clear hw
      have hkn : (k : Int) < (n : Int) := hlt
      obtain ⟨b, o, rfl, g1, g2, g3⟩ := HF.out k L[k] (List.getElem?_eq_getElem hkL)
      have hbw := World.block_lt_of_cell? _ _ g1
      generalize L[k] = f at g1 g2 g3 HAT
      obtain ⟨nm, vl, nv⟩ := f
      simp only at g1 g2 g3 hbw
      have HB := Lib.hid (((Below.refl w.heap.size w).alloc (Nat.le_refl _) (.cells #[.int .i64 m, .slice (some ⟨b, o, none⟩) n cap] 28)).alloc (by simp) (.cells #[.string nm, .string vl, .bool nv] 25))
      clear hk hlt h61 h1
      go_enter Try.func85, Try.ntmps85
      go_wp2_with fail
      refine bodyPost_ret (v := .tuple #[.agg #[.string nm, .string vl, .bool nv], .bool true]) (by simp [results, Try.results85, go_sem]) rfl ⟨by rw [HAT.out], HB.out⟩
    · have hk : ¬ (i - 62 < (n : Int)) := hlt
      have HAT := Lib.hid (show atF L i = (zeroF, false) from by
        unfold atF
        rw [if_neg h1, if_neg h61, List.getElem?_eq_none (by rw [HN.out]; omega)])
      have HB := Lib.hid (((Below.refl w.heap.size w).alloc (Nat.le_refl _) (.cells #[.int .i64 m, .slice oa n cap] 28)).alloc (by simp) (.cells #[.string ByteArray.empty, .string ByteArray.empty, .bool false] 25))
      clear hlt h61 h1
      go_enter Try.func85, Try.ntmps85
      go_wp2_with fail
      refine bodyPost_ret (v := .tuple #[.agg #[.string ByteArray.empty, .string ByteArray.empty, .bool false], .bool false]) (by simp [results, Try.results85, go_sem]; rfl) rfl ⟨by rw [HAT.out]; rfl, HB.out⟩
end Go.Proofs.Yteceinojmdgmeaa

