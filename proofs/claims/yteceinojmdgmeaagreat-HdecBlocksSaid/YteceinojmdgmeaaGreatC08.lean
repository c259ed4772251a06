/- DecR · DecS · StatC · Flds: joined by a program, for a claim has at most 60 files. -/
import Derived.Test.YteceinojmdgmeaaGreatC06
import Derived.Test.YteceinojmdgmeaaGreatC07
import Derived.Test.YteceinojmdgmeaaGreatC02
/- Decoding what was encoded: the plain law. No program in sight. -/
namespace Go.Proofs.YteceinojmdgmeaaGreat
set_option linter.unusedVariables false
set_option linter.unusedSimpArgs false

theorem bitsN_valB : ∀ (n : Nat) (l : List Nat), l.length = n → isBits l → bitsN n (valB l) = l
  | 0, l, h, _ => by rw [List.length_eq_zero_iff.1 h]; rfl
  | n + 1, l, h, hb => by
    have hne : l ≠ [] := by intro e; subst e; simp at h
    rw [← List.dropLast_concat_getLast hne] at hb ⊢
    have hl : l.dropLast.length = n := by rw [List.length_dropLast, h]; rfl
    have hlast : l.getLast hne < 2 := hb _ (List.mem_append_right _ (List.mem_singleton.2 rfl))
    rw [valB_snoc, bitsN, show (2 * valB l.dropLast + l.getLast hne) / 2 = valB l.dropLast from by omega, show (2 * valB l.dropLast + l.getLast hne) % 2 = l.getLast hne from by omega, bitsN_valB n _ hl (isBits_append hb).1]
theorem bytesBits_cons (b : Nat) (l : List Nat) : bytesBits (b :: l) = bitsN 8 b ++ bytesBits l := by simp [bytesBits]
theorem bytesBits_pack : ∀ (n : Nat) (L : List Nat), L.length = 8 * n → isBits L → bytesBits (packN n L) = L
  | 0, L, h, _ => by
    obtain rfl : L = [] := List.length_eq_zero_iff.1 (by omega)
    rfl
  | n + 1, L, h, hb => by
    have h8 : (L.take 8).length = 8 := by rw [List.length_take]; omega
    have hs := isBits_append (l := L.take 8) (r := L.drop 8) (by rw [List.take_append_drop]; exact hb)
    rw [packN, bytesBits_cons, bitsN_valB 8 _ h8 hs.1, bytesBits_pack n _ (by rw [List.length_drop]; omega) hs.2, List.take_append_drop]
theorem padL_bits {b : List Nat} (h : isBits b) : isBits (padL b) := isBits_mk h (ones_bits _)
theorem bytesBits_enc (l : List UInt8) : bytesBits (encL l) = padL (textBits l) := by
  unfold encL
  refine bytesBits_pack _ _ ?_ (padL_bits (textBits_bits l))
  rw [padL_len, textBits_len]
  rfl
/-- What is read ahead stays ahead. -/
theorem dStep_out (a o : Nat) (f : Bool) (out : List UInt8) (b : Nat) : dStep (a, o, f, out) b = (dStep (a, o, f, []) b).map fun s => (s.1, s.2.1, s.2.2.1, out ++ s.2.2.2) := by
  unfold dStep
  simp only
  generalize treeL.getD (a * 2 + b) 0 = V
  split
  · rfl
  · split
    · simp
    · simp
theorem dRun_out (l : List Nat) : ∀ (a o : Nat) (f : Bool) (out : List UInt8), dRun (a, o, f, out) l = (dRun (a, o, f, []) l).map fun s => (s.1, s.2.1, s.2.2.1, out ++ s.2.2.2) := by
  induction l with
  | nil => intro a o f out; simp [dRun]
  | cons b l ih =>
    intro a o f out
    simp only [dRun]
    rw [dStep_out a o f out b]
    cases h : dStep (a, o, f, []) b with
    | none => rfl
    | some s =>
      obtain ⟨a1, o1, f1, out1⟩ := s
      simp only [Option.map_some, Option.bind_some]
      rw [ih a1 o1 f1 (out ++ out1), ih a1 o1 f1 out1]
      cases dRun (a1, o1, f1, []) l <;> simp
def codeReads (t : List (Nat × Nat)) : Nat → Bool
  | 0 => true
  | n + 1 => codeReads t n && (let x := t.getD n (0, 0); decide (dRun d0 (bitsN x.2 x.1) = some (0, 0, true, [UInt8.ofNat n])))
theorem codeReads_at (t : List (Nat × Nat)) : ∀ n, codeReads t n = true → ∀ c, c < n → dRun d0 (bitsN (t.getD c (0, 0)).2 (t.getD c (0, 0)).1) = some (0, 0, true, [UInt8.ofNat c])
  | 0, _, c, h => absurd h (Nat.not_lt_zero c)
  | n + 1, h, c, hc => by
    simp only [codeReads, Bool.and_eq_true, decide_eq_true_eq] at h
    by_cases e : c = n
    · subst e; exact h.2
    · exact codeReads_at t n h.1 c (by omega)
set_option maxRecDepth 100000 in
theorem reads_all : codeReads (codeL.zip lenL) 256 = true := by decide +kernel
theorem reads_code (c : UInt8) : dRun d0 (byteBits c) = some (0, 0, true, [c]) := by
  have h := codeReads_at _ 256 reads_all c.toNat c.toNat_lt
  have h1 : c.toNat < codeL.length := by rw [codeL_len]; exact c.toNat_lt
  have h2 : c.toNat < lenL.length := by rw [lenL_len]; exact c.toNat_lt
  have hz : c.toNat < (codeL.zip lenL).length := by rw [List.length_zip]; omega
  have e : (codeL.zip lenL).getD c.toNat (0, 0) = (codeOf c.toNat, lenOf c.toNat) := by
    rw [List.getD_eq_getElem?_getD, List.getElem?_eq_getElem hz, Option.getD_some, List.getElem_zip]
    simp [codeOf, lenOf, List.getD_eq_getElem?_getD, List.getElem?_eq_getElem h1, List.getElem?_eq_getElem h2]
  rw [e] at h
  unfold byteBits
  simpa using h
theorem reads_text : ∀ (l out : List UInt8), dRun (0, 0, true, out) (textBits l) = some (0, 0, true, out ++ l)
  | [], out => by simp [textBits, dRun]
  | c :: l, out => by
    have e : textBits (c :: l) = byteBits c ++ textBits l := rfl
    rw [e, dRun_append, dRun_out (byteBits c) 0 0 true out]
    have := reads_code c
    unfold d0 at this
    rw [this]
    simp only [Option.map_some, Option.bind_some]
    rw [reads_text l (out ++ [c])]
    simp
def onesRead : Nat → Bool
  | 0 => true
  | n + 1 => onesRead n && (match dRun d0 (List.replicate n 1) with | some (_, o, f, l) => decide (o = n) && f && decide (l = []) | none => false)
set_option maxRecDepth 100000 in
theorem ones_all : onesRead 8 = true := by decide +kernel
theorem onesRead_at : ∀ n, onesRead n = true → ∀ r, r < n → ∃ a, dRun d0 (List.replicate r 1) = some (a, r, true, [])
  | 0, _, c, h => absurd h (Nat.not_lt_zero c)
  | n + 1, h, r, hr => by
    simp only [onesRead, Bool.and_eq_true] at h
    by_cases e : r = n
    · subst e
      have := h.2
      split at this
      · rename_i a o f l hd
        simp only [Bool.and_eq_true, decide_eq_true_eq] at this
        obtain ⟨⟨rfl, rfl⟩, rfl⟩ := this
        exact ⟨a, hd⟩
      · cases this
    · exact onesRead_at n h.1 r (by omega)
/-- What is encoded is decoded. -/
theorem dec_enc (l : List UInt8) : decL (encL l) = some l := by
  unfold decL
  rw [bytesBits_enc]
  unfold padL
  generalize hr : (8 - (textBits l).length % 8) % 8 = r
  have hr8 : r < 8 := by omega
  obtain ⟨a, ha⟩ := onesRead_at 8 ones_all r hr8
  rw [dRun_append]
  have h1 := reads_text l []
  unfold d0 at ha ⊢
  rw [h1]
  simp only [Option.bind_some, List.nil_append]
  rw [dRun_out _ 0 0 true l, ha]
  simp only [Option.map_some, List.append_nil]
  rw [if_neg (by simp; omega)]
theorem valB_byte (l : List Nat) (hb : isBits l) (h : l.length ≤ 8) : valB l < 256 := by
  have h1 := valB_lt l hb
  have h2 : 2 ^ l.length ≤ 2 ^ 8 := Nat.pow_le_pow_right (by decide) h
  have h3 : (2 : Nat) ^ 8 = 256 := by decide
  omega
theorem packN_byte : ∀ (n : Nat) (L : List Nat), isBits L → ∀ x ∈ packN n L, x < 256
  | 0, L, _, x, hx => by simp [packN] at hx
  | n + 1, L, hb, x, hx => by
    have hs := isBits_append (l := L.take 8) (r := L.drop 8) (by rw [List.take_append_drop]; exact hb)
    rw [packN, List.mem_cons] at hx
    rcases hx with rfl | hx
    · exact valB_byte _ hs.1 (by rw [List.length_take]; omega)
    · exact packN_byte n _ hs.2 x hx
theorem encL_byte (l : List UInt8) : ∀ x ∈ encL l, x < 256 := packN_byte _ _ (padL_bits (textBits_bits l))
def encU (l : List UInt8) : List UInt8 := (encL l).map UInt8.ofNat
theorem encU_nat (l : List UInt8) : (encU l).map UInt8.toNat = encL l := by
  unfold encU
  rw [List.map_map]
  conv => rhs; rw [← List.map_id (encL l)]
  refine List.map_congr_left fun x hx => ?_
  have := encL_byte l x hx
  simp; omega
theorem encU_inj {l r : List UInt8} (h : encU l = encU r) : l = r := by
  have e : encL l = encL r := by rw [← encU_nat l, ← encU_nat r, h]
  have h1 := dec_enc l
  rw [e, dec_enc r] at h1
  exact (Option.some.inj h1).symm
theorem encL_len (l : List UInt8) : (encL l).length = sizeL l := packN_len _ _
end Go.Proofs.YteceinojmdgmeaaGreat


/- HuffBack: what the law's function does: for every two texts it returns true. -/
namespace Go.Proofs.YteceinojmdgmeaaGreat
open Go.RowKit
set_option linter.unusedVariables false
set_option linter.unusedSimpArgs false

theorem decode_str (p : Nat) (w : World) (hr : Ready p w) (oa : Option Addr) (n cap : Nat) (s : ByteArray) (hs : s.size ≤ 1000) (hn : (encL s.data.toList).length = n) (hb : BytesN w oa (encL s.data.toList)) (hp : ∀ a, oa = some a → a.block ≠ p) (hlen : n ≤ 1000000) :
    Calls Tryz.prog 68 #[.pointer (some ⟨p, 0, none⟩), .slice oa n cap] w fun e w' => e = .returned (.tuple #[.string s, .int .i64 0]) ∧ Done p w' 1 ∧ Near p w.heap.size w w' := by
  subst hn
  refine (decode_text p w hr oa cap _ _ (dec_enc s.data.toList) hb hp hlen (fun i hi => ?_)).mono ?_
  · rw [List.getD_eq_getElem?_getD, List.getElem?_eq_getElem hi]
    exact encL_byte _ _ (List.getElem_mem hi)
  · rintro e w' ⟨rfl, h⟩
    exact ⟨by simp, h⟩
theorem toList_ne {a b : ByteArray} (h : ¬ a = b) : (a.toList == b.toList) = false := beq_false_of_ne (fun e => h (by
  rw [ByteArray.toList_eq, ByteArray.toList_eq] at e
  cases a; cases b; simp only at e; congr 1; exact Array.toList_inj.1 e))
theorem textBits_le : ∀ l : List UInt8, (textBits l).length ≤ 30 * l.length
  | [] => by simp [textBits]
  | c :: l => by
    have e : textBits (c :: l) = byteBits c ++ textBits l := rfl
    have h := textBits_le l
    have h2 := (len_range c.toNat c.toNat_lt).2
    rw [e, List.length_append, byteBits_len, List.length_cons]
    omega
theorem sizeL_le (s : ByteArray) (h : s.size ≤ 300) : sizeL s.data.toList ≤ 10000 := by
  have h1 := textBits_len s.data.toList
  have h2 := textBits_le s.data.toList
  have h3 : s.data.toList.length = s.size := by rw [Array.length_toList]; rfl
  unfold sizeL
  omega

end Go.Proofs.YteceinojmdgmeaaGreat


/- What static.Find returns: the place of a field, or of its name. -/
namespace Go.Proofs.YteceinojmdgmeaaGreat
open Go.RowKit
set_option linter.unusedVariables false
set_option linter.unusedSimpArgs false

/-- The first place of a name among the first k. -/
def Named (n : ByteArray) (k m : Nat) : Prop := (m = 0 ∧ ∀ j, j < k → stN j ≠ n) ∨ ∃ q, q < k ∧ m = q + 1 ∧ stN q = n ∧ ∀ j, j < q → stN j ≠ n
def NoExact (n v : ByteArray) (k : Nat) : Prop := ∀ j, j < k → ¬ (stN j = n ∧ stV j = v)
/-- What is found: place and whether the value is there, too. -/
def SFound (n v : ByteArray) (p : Nat) (x : Bool) : Prop :=
  (x = true ∧ ∃ k, k < 61 ∧ p = k + 1 ∧ stN k = n ∧ stV k = v ∧ NoExact n v k) ∨ (x = false ∧ NoExact n v 61 ∧ Named n 61 p)
theorem Named.skip {n : ByteArray} {k m : Nat} (h : Named n k m) (hk : stN k ≠ n) : Named n (k + 1) m := by
  rcases h with ⟨h1, h2⟩ | ⟨q, h1, h2, h3, h4⟩
  · exact .inl ⟨h1, fun j hj => by by_cases e : j = k; · subst e; exact hk
                                   · exact h2 j (by omega)⟩
  · exact .inr ⟨q, by omega, h2, h3, h4⟩
theorem Named.keep {n : ByteArray} {k m : Nat} (h : Named n k m) (hm : m ≠ 0) : Named n (k + 1) m := by
  rcases h with ⟨h1, h2⟩ | ⟨q, h1, h2, h3, h4⟩
  · exact absurd h1 hm
  · exact .inr ⟨q, by omega, h2, h3, h4⟩
theorem Named.new {n : ByteArray} {k m : Nat} (h : Named n k m) (hm : m = 0) (hk : stN k = n) : Named n (k + 1) (k + 1) := by
  rcases h with ⟨h1, h2⟩ | ⟨q, h1, h2, h3, h4⟩
  · exact .inr ⟨k, by omega, rfl, hk, h2⟩
  · omega
theorem Named.le {n : ByteArray} {k m : Nat} (h : Named n k m) : m ≤ k := by
  rcases h with ⟨h1, h2⟩ | ⟨q, h1, h2, h3, h4⟩ <;> omega
theorem NoExact.step {n v : ByteArray} {k : Nat} (h : NoExact n v k) (hk : ¬ (stN k = n ∧ stV k = v)) : NoExact n v (k + 1) := fun j hj => by
  by_cases e : j = k
  · subst e; exact hk
  · exact h j (by omega)
theorem toList_eq {a b : ByteArray} (h : a = b) : (a.toList == b.toList) = true := by subst h; exact beq_self_eq_true _
def SFindPost (n v : ByteArray) (w : World) (e : Ending) (w' : World) : Prop :=
  ∃ (p : Nat) (x : Bool), SFound n v p x ∧ e = .returned (.tuple #[.int .i64 (p : Int), .bool x]) ∧ Below w.heap.size w w'
end Go.Proofs.YteceinojmdgmeaaGreat


/- Fields in memory; whether they are light; what a table counts. -/
namespace Go.Proofs.YteceinojmdgmeaaGreat
open Go.RowKit
set_option linter.unusedVariables false
set_option linter.unusedSimpArgs false

structure Fld where
  name : ByteArray
  value : ByteArray
  never : Bool
instance : Inhabited Fld := ⟨⟨ByteArray.empty, ByteArray.empty, false⟩⟩
def Fld.val (f : Fld) : Value := .agg #[.string f.name, .string f.value, .bool f.never]
/-- Fields in memory. -/
def FieldsN (W : World) (oa : Option Addr) (L : List Fld) : Prop := ∀ i f, L[i]? = some f → ∃ b o, oa = some ⟨b, o, none⟩ ∧
  W.cell? ⟨b, o + i * 3, none⟩ = some (.string f.name) ∧ W.cell? ⟨b, o + i * 3 + 1, none⟩ = some (.string f.value) ∧ W.cell? ⟨b, o + i * 3 + 2, none⟩ = some (.bool f.never)
theorem FieldsN.below {W W' : World} {oa : Option Addr} {L : List Fld} (h : FieldsN W oa L) (hn : Below W.heap.size W W') : FieldsN W' oa L := by
  intro i f hf
  obtain ⟨b, o, ha, h1, h2, h3⟩ := h i f hf
  have e : W'.heap[b]? = W.heap[b]? := hn.block b (World.block_lt_of_cell? _ _ h1)
  exact ⟨b, o, ha, (cell_eq0 e).trans h1, (cell_eq0 e).trans h2, (cell_eq0 e).trans h3⟩
def lightF (f : Fld) : Bool := decide (f.name.size ≤ 40000) && decide (f.value.size ≤ 40000)
def lt200 (f : Fld) : Bool := decide (f.name.size ≤ 200) && decide (f.value.size ≤ 200)
def light (L : List Fld) : Bool := decide (L.length ≤ 30) && L.all lt200
theorem lt200.lightF {f : Fld} (h : lt200 f = true) : lightF f = true := by
  simp only [lt200, Bool.and_eq_true, decide_eq_true_eq] at h
  simp only [Go.Proofs.YteceinojmdgmeaaGreat.lightF, Bool.and_eq_true, decide_eq_true_eq]
  omega
theorem light.all {L : List Fld} (h : light L = true) : ∀ f ∈ L, lightF f = true := by
  unfold light at h
  rw [Bool.and_eq_true, List.all_eq_true] at h
  exact fun f hf => lt200.lightF (h.2 f hf)
theorem light.len {L : List Fld} (h : light L = true) : L.length ≤ 30 := by
  unfold light at h
  rw [Bool.and_eq_true] at h
  simpa using h.1
set_option maxRecDepth 100000 in
set_option maxHeartbeats 1000000 in
theorem light_any (oa : Option Addr) (n cap : Nat) (L : List Fld) (hn : L.length = n) (w : World) (hf : FieldsN w oa L) :
    Calls Tryz.prog 12 #[.slice oa n cap] w fun e w' => e = .returned (.bool (light L)) ∧ w' = w := by
  have HN := Lib.hid hn
  have HF := Lib.hid hf
  clear hn hf
  by_cases h30 : n ≤ 30
  · have h30i : (n : Int) ≤ 30 := by omega
    go_enter Tryz.func12, Tryz.ntmps12
    go_wp2_with fail
    go_loopw [3] (fun i wr => ∃ k : Nat, k ≤ n ∧ i = .int .i64 k ∧ (L.take k).all lt200 = true ∧ wr = w) (fun i _ => n - (intOf i).toNat)
    case atStart => exact ⟨0, Nat.zero_le _, rfl, by simp, rfl⟩
    case round =>
      obtain ⟨k, hk, rfl, hall, rfl⟩ := hrel
      have HA := Lib.hid hall
      clear hall
      by_cases hlt : k < n
      · have hki : (k : Int) < (n : Int) := by omega
        have hkL : k < L.length := by rw [HN.out]; exact hlt
        obtain ⟨b, o, rfl, h1, h2, h3⟩ := HF.out k L[k] (List.getElem?_eq_getElem hkL)
        have HT := Lib.hid (show (L.take (k + 1)).all lt200 = lt200 L[k] from by
          rw [List.take_succ_eq_append_getElem hkL, List.all_append, HA.out]; simp)
        have HNO := Lib.hid (show lt200 L[k] = false → light L = false from fun h => by
          unfold light
          rw [Bool.and_eq_false_iff]
          right
          rw [List.all_eq_false]
          exact ⟨L[k], List.getElem_mem hkL, by simp [h]⟩)
        generalize L[k] = f at h1 h2 h3 HT HNO
        obtain ⟨nm, vl, nv⟩ := f
        simp only at h1 h2 h3
        by_cases hs1 : nm.size ≤ 200
        · have hs1i : decide ((200 : Int) < ((nm.size : Nat) : Int)) = false := by simp; omega
          by_cases hs2 : vl.size ≤ 200
          · have hs2i : decide ((200 : Int) < ((vl.size : Nat) : Int)) = false := by simp; omega
            have HL := Lib.hid (show lt200 ⟨nm, vl, nv⟩ = true from by simp [lt200, hs1, hs2])
            clear h3
            go_wp2_with fail
            go_roundw
            case rel => exact ⟨k + 1, by omega, by go_num, by rw [HT.out, HL.out], by trivial⟩
            case measure => simp [intOf]; omega
          · have hs2i : decide ((200 : Int) < ((vl.size : Nat) : Int)) = true := by simp; omega
            have HL := Lib.hid (HNO.out (show lt200 ⟨nm, vl, nv⟩ = false from by simp [lt200, hs2]))
            clear h3
            go_wp2_with fail
            refine bodyPost_ret (v := .bool false) (by simp [results, Tryz.results12, go_sem]) rfl ⟨by rw [HL.out], rfl⟩
        · have hs1i : decide ((200 : Int) < ((nm.size : Nat) : Int)) = true := by simp; omega
          have HL := Lib.hid (HNO.out (show lt200 ⟨nm, vl, nv⟩ = false from by simp [lt200, hs1]))
          clear h3
          go_wp2_with fail
          refine bodyPost_ret (v := .bool false) (by simp [results, Tryz.results12, go_sem]) rfl ⟨by rw [HL.out], rfl⟩
      · obtain rfl : k = n := by omega
        have HL := Lib.hid (show light L = true from by
          unfold light
          rw [Bool.and_eq_true]
          have := HA.out
          rw [List.take_of_length_le (by rw [HN.out]; exact Nat.le_refl _)] at this
          exact ⟨by simpa using (by rw [HN.out]; exact h30 : L.length ≤ 30), this⟩)
        go_wp2_with fail
        refine bodyPost_ret (v := .bool true) (by simp [results, Tryz.results12, go_sem]) rfl ⟨by rw [HL.out], rfl⟩
  · have h30i : (30 : Int) < (n : Int) := by omega
    have HL := Lib.hid (show light L = false from by
      unfold light
      rw [Bool.and_eq_false_iff]
      left
      simp only [decide_eq_false_iff_not]
      rw [HN.out]; exact h30)
    go_enter Tryz.func12, Tryz.ntmps12
    go_wp2_with fail
    refine bodyPost_ret (v := .bool false) (by simp [results, Tryz.results12, go_sem]) rfl ⟨by rw [HL.out], rfl⟩
end Go.Proofs.YteceinojmdgmeaaGreat

