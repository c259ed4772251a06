/- DecU · RefV: joined by a program, for a claim has at most 60 files. -/
import Derived.Test.YteceinojmdgmeaaGreatC08
import Derived.Test.YteceinojmdgmeaaGreatC39
/- The document's way to decode, as a plain law: greedy reading and encoding again tell what the tree tells. No program in sight. -/
namespace Go.Proofs.YteceinojmdgmeaaGreat
set_option linter.unusedVariables false
set_option linter.unusedSimpArgs false

/-- Each way down the tree spells the code of the byte where it ends. -/
def dfs : Nat → Nat → List Nat → Bool
  | 0, _, _ => false
  | n + 1, a, path =>
    (let V := treeL.getD (a * 2 + 0) 0; if V = 0 then true else if V < 0 then decide (path ++ [0] = codeBits (-1 - V).toNat ∧ (-1 - V).toNat < 256) else dfs n V.toNat (path ++ [0])) &&
    (let V := treeL.getD (a * 2 + 1) 0; if V = 0 then true else if V < 0 then decide (path ++ [1] = codeBits (-1 - V).toNat ∧ (-1 - V).toNat < 256) else dfs n V.toNat (path ++ [1]))
set_option maxRecDepth 100000 in
theorem dfs_ok : dfs 31 0 [] = true := by decide +kernel
def allOnes (l : List Nat) : Bool := l.all (· == 1)
/-- Some byte's code begins l. -/
def HasCode (l : List Nat) : Prop := ∃ c n, c < 256 ∧ n ≤ l.length ∧ l.take n = codeBits c
theorem dfs_branch {n a b : Nat} {path : List Nat} (hb : b < 2) (h : dfs (n + 1) a path = true) :
    treeL.getD (a * 2 + b) 0 = 0 ∨ (treeL.getD (a * 2 + b) 0 < 0 ∧ path ++ [b] = codeBits (-1 - treeL.getD (a * 2 + b) 0).toNat ∧ (-1 - treeL.getD (a * 2 + b) 0).toNat < 256) ∨ (0 < treeL.getD (a * 2 + b) 0 ∧ dfs n (treeL.getD (a * 2 + b) 0).toNat (path ++ [b]) = true) := by
  simp only [dfs, Bool.and_eq_true] at h
  have hb' : b = 0 ∨ b = 1 := by omega
  rcases hb' with rfl | rfl
  · have h1 := h.1
    generalize treeL.getD (a * 2 + 0) 0 = V at h1
    split at h1
    · left; assumption
    · split at h1
      · right; left; rename_i hv; simp only [decide_eq_true_eq] at h1; exact ⟨hv, h1⟩
      · right; right; exact ⟨by omega, h1⟩
  · have h1 := h.2
    generalize treeL.getD (a * 2 + 1) 0 = V at h1
    split at h1
    · left; assumption
    · split at h1
      · right; left; rename_i hv; simp only [decide_eq_true_eq] at h1; exact ⟨hv, h1⟩
      · right; right; exact ⟨by omega, h1⟩
theorem dfs_run : ∀ (l : List Nat) (n a o : Nat) (f : Bool) (path : List Nat), isBits l → dfs n a path = true →
    dRun (a, o, f, []) l = none ∨ (∃ a', dRun (a, o, f, []) l = some (a', o + l.length, f && allOnes l, [])) ∨ (∃ c m, c < 256 ∧ m ≤ l.length ∧ path ++ l.take m = codeBits c)
  | [], n, a, o, f, path, _, _ => .inr (.inl ⟨a, by simp [dRun, allOnes]⟩)
  | b :: l, 0, a, o, f, path, _, h => by simp [dfs] at h
  | b :: l, n + 1, a, o, f, path, hb, h => by
    have hb2 : b < 2 := hb b List.mem_cons_self
    have hbl : isBits l := fun x hx => hb x (List.mem_cons_of_mem _ hx)
    have hs : dStep (a, o, f, []) b = if treeL.getD (a * 2 + b) 0 = 0 then none else if treeL.getD (a * 2 + b) 0 < 0 then some (0, 0, true, [] ++ [UInt8.ofNat (-1 - treeL.getD (a * 2 + b) 0).toNat]) else some ((treeL.getD (a * 2 + b) 0).toNat, o + 1, f && (b == 1), []) := rfl
    simp only [dRun]
    rcases dfs_branch hb2 h with hv | ⟨hv, hp, hc⟩ | ⟨hv, hd⟩
    · left; rw [hs, if_pos hv]; rfl
    · right; right
      exact ⟨_, 1, hc, by simp, by simpa using hp⟩
    · rw [hs, if_neg (by omega), if_neg (by omega)]
      simp only [Option.bind_some]
      rcases dfs_run l n _ (o + 1) (f && (b == 1)) (path ++ [b]) hbl hd with h1 | ⟨a', h1⟩ | ⟨c, m, h1, h2, h3⟩
      · left; exact h1
      · right; left
        refine ⟨a', ?_⟩
        rw [h1]
        simp only [allOnes, List.all_cons, List.length_cons, Bool.and_assoc]
        rw [show o + 1 + l.length = o + (l.length + 1) from by omega]
      · right; right
        exact ⟨c, m + 1, h1, by simp; omega, by rw [← h3]; simp⟩
theorem ones_of : ∀ l : List Nat, allOnes l = true → l = List.replicate l.length 1
  | [], _ => rfl
  | b :: l, h => by
    simp only [allOnes, List.all_cons, Bool.and_eq_true, beq_iff_eq] at h
    have := ones_of l h.2
    rw [List.length_cons, List.replicate_succ, ← this, h.1]
theorem bitsN_valB8 (x : Nat) (h : x < 256) : valB (bitsN 8 x) = x := valB_bitsN 8 x (by simpa using h)
theorem pack_bytes : ∀ bs : List Nat, (∀ x ∈ bs, x < 256) → packN bs.length (bytesBits bs) = bs
  | [], _ => rfl
  | x :: bs, h => by
    have h8 : (bitsN 8 x).length = 8 := bitsN_len _ _
    rw [bytesBits_cons, List.length_cons, packN, List.take_append_of_le_length (by omega), List.drop_append_of_le_length (by omega), List.take_of_length_le (by omega), List.drop_of_length_le (by omega), List.nil_append, bitsN_valB8 x (h x List.mem_cons_self), pack_bytes bs (fun y hy => h y (List.mem_cons_of_mem _ hy))]
/-- What the greedy reading tells. -/
theorem greedy_law (bs : List Nat) (T : List UInt8) (r : List Nat) (hbs : ∀ x ∈ bs, x < 256) (hL : bytesBits bs = textBits T ++ r) (hr : isBits r) (hno : ¬ HasCode r) :
    decL bs = if encL T = bs then some T else none := by
  by_cases he : encL T = bs
  · rw [if_pos he, ← he]
    exact dec_enc T
  · rw [if_neg he]
    unfold decL
    rw [hL, dRun_append]
    have h1 := reads_text T []
    unfold d0
    rw [h1]
    simp only [Option.bind_some, List.nil_append]
    rw [dRun_out r 0 0 true T]
    rcases dfs_run r 31 0 0 true [] hr dfs_ok with h2 | ⟨a', h2⟩ | ⟨c, m, h3, h4, h5⟩
    · rw [h2]; rfl
    · rw [h2]
      simp only [Option.map_some, Nat.zero_add, Bool.true_and, List.append_nil]
      by_cases h8 : 8 ≤ r.length
      · rw [if_pos (.inl h8)]
      · cases ho : allOnes r with
        | false => simp
        | true =>
          exfalso
          apply he
          have hr1 := ones_of r ho
          have hlen : 8 * bs.length = (textBits T).length + r.length := by rw [← bytesBits_len, hL, List.length_append]
          have e1 : r.length = (8 - (textBits T).length % 8) % 8 := by omega
          have e2 : sizeL T = bs.length := by
            have := textBits_len T
            unfold sizeL
            omega
          unfold encL padL
          rw [← e1, ← hr1, ← hL, e2]
          exact pack_bytes bs hbs
    · exact absurd ⟨c, m, h3, h4, by simpa using h5⟩ hno
end Go.Proofs.YteceinojmdgmeaaGreat


/- The document's find: the byte whose code begins bits. -/
namespace Go.Proofs.YteceinojmdgmeaaGreat
open Go.RowKit
set_option linter.unusedVariables false
set_option linter.unusedSimpArgs false

/-- Ints in memory. -/
def IntsN (W : World) (oa : Option Addr) (l : List Nat) : Prop := ∀ i, i < l.length → ∃ a, oa = some a ∧ W.cell? (a.add i) = some (.int .i64 (l.getD i 0 : Nat))
theorem IntsN.below {W W' : World} {oa : Option Addr} {l : List Nat} (h : IntsN W oa l) (hn : Below W.heap.size W W') : IntsN W' oa l := by
  intro i hi
  obtain ⟨a, ha, hc⟩ := h i hi
  exact ⟨a, ha, (cell_eq (hn.block _ (World.block_lt_of_cell? _ _ hc))).trans hc⟩
def FindPost (r : List Nat) (w : World) (e : Ending) (w' : World) : Prop :=
  w' = w ∧ ((∃ c n, c < 256 ∧ lenOf c = n ∧ n ≤ r.length ∧ r.take n = codeBits c ∧ e = .returned (.tuple #[.int .u8 (c : Nat), .int .i64 (n : Nat)])) ∨ (¬ HasCode r ∧ e = .returned (.tuple #[.int .u8 0, .int .i64 0])))
/-- No code that is shorter than k begins r. -/
def Fnd (r : List Nat) (k : Nat) : Prop := ∀ c, c < 256 → lenOf c < k → lenOf c ≤ r.length → r.take (lenOf c) ≠ codeBits c
/-- No code of k bits of a byte below y is hd. -/
def FndI (k hd y : Nat) : Prop := ∀ c, c < y → lenOf c = k → codeOf c ≠ hd
theorem FndI.step {k hd y : Nat} (h : FndI k hd y) (h2 : lenOf y = k → codeOf y ≠ hd) : FndI k hd (y + 1) := by
  intro c hc hl
  by_cases e : c = y
  · subst e; exact h2 hl
  · exact h c (by omega) hl
theorem code_is {r : List Nat} {k c : Nat} (hr : isBits r) (hk : k ≤ r.length) (hl : lenOf c = k) (h : codeOf c = valB (r.take k)) : r.take k = codeBits c := by
  unfold codeBits
  rw [hl, h]
  exact (bitsN_valB k (r.take k) (by rw [List.length_take]; omega) (fun b hb => hr b (List.mem_of_mem_take hb))).symm
theorem is_code {r : List Nat} {k c : Nat} (hc : c < 256) (hl : lenOf c = k) (h : r.take k = codeBits c) : codeOf c = valB (r.take k) := by
  rw [h]
  unfold codeBits
  exact (valB_bitsN _ _ (code_lt c hc)).symm
theorem Fnd.next {r : List Nat} {k hd : Nat} (h : Fnd r k) (hd2 : hd = valB (r.take k)) (hi : FndI k hd 256) : Fnd r (k + 1) := by
  intro c hc hl hle he
  by_cases e : lenOf c = k
  · rw [e] at he
    exact hi c hc e ((is_code hc e he).trans hd2.symm)
  · exact h c hc (by omega) hle he
theorem Fnd.none {r : List Nat} {k : Nat} (h : Fnd r k) (hk : r.length < k ∨ 30 < k) : ¬ HasCode r := by
  rintro ⟨c, n, hc, hn, he⟩
  have h1 : n = lenOf c := by
    have := congrArg List.length he
    rw [List.length_take] at this
    unfold codeBits at this
    rw [bitsN_len] at this
    omega
  subst h1
  have h2 := (len_range c hc).2
  exact h c hc (by omega) hn he
theorem valB_take1 (r : List Nat) (k : Nat) (h : k < r.length) : valB (r.take (k + 1)) = 2 * valB (r.take k) + r.getD k 0 := by
  rw [List.take_succ_eq_append_getElem h, valB_snoc, List.getD_eq_getElem?_getD, List.getElem?_eq_getElem h]
  rfl
theorem valB_take_lt (r : List Nat) (k : Nat) (hr : isBits r) (h : k ≤ 30) : valB (r.take k) < 1073741824 := by
  have h1 := valB_lt (r.take k) (fun b hb => hr b (List.mem_of_mem_take hb))
  have h2 : 2 ^ (r.take k).length ≤ 2 ^ 30 := Nat.pow_le_pow_right (by decide) (by rw [List.length_take]; omega)
  have h3 : (2 : Nat) ^ 30 = 1073741824 := by decide
  omega

set_option maxRecDepth 100000 in
set_option maxHeartbeats 2000000 in
theorem find_any (oa : Option Addr) (cap : Nat) (r : List Nat) (w : World) (hin : IntsN w oa r) (hr : isBits r) (hlen : r.length ≤ 100000) :
    Calls Tryz.prog 80 #[.slice oa r.length cap] w (FindPost r w) := by
  have HIN := Lib.hid hin
  have HR := Lib.hid hr
  clear hin hr
  obtain ⟨R, hR⟩ : ∃ R, r.length = R := ⟨_, rfl⟩
  have HRL := Lib.hid hR
  rw [hR] at hlen ⊢
  clear hR
  go_enter Tryz.func80, Tryz.ntmps80
  go_wp2_with fail
  go_loopw [4, 5, 6, 7, 8] (fun cd at' hd fs n wr => ∃ k : Nat, 1 ≤ k ∧ k ≤ 31 ∧ k ≤ R + 1 ∧ n = .int .i64 k ∧ hd = .int .i64 (valB (r.take (k - 1)) : Nat) ∧ cd = .int .i64 ((cAt k 0).1 : Nat) ∧ at' = .int .i64 ((cAt k 0).2.1 : Nat) ∧ fs = .bool (cAt k 0).2.2 ∧ Fnd r k ∧ wr = w) (fun _ _ _ _ n _ => 32 - (intOf n).toNat)
  case atStart => exact ⟨1, by omega, by omega, by omega, rfl, rfl, rfl, rfl, rfl, (fun c hc hl => by have := (len_range c hc).1; omega), rfl⟩
  case round =>
    obtain ⟨k, hk1, hk2, hk3, rfl, rfl, rfl, rfl, rfl, hfn, rfl⟩ := hrel
    have HFN := Lib.hid hfn
    clear hfn
    by_cases hk30 : k ≤ 30
    · have hki : (k : Int) ≤ 30 := by omega
      by_cases hkR : k ≤ R
      · have hkRi : (k : Int) ≤ (R : Int) := by omega
        have hk0 : 0 ≤ (k : Int) - 1 := by omega
        have hkw : IntKind.i64.wrap ((k : Int) - 1) = (k : Int) - 1 := IntWalk.i64_in _ (by omega)
        have hkl : (k : Int) - 1 < (R : Int) := by omega
        have hkt : ((k : Int) - 1).toNat = k - 1 := by omega
        obtain ⟨ad, rfl, hc1⟩ := HIN.out (k - 1) (by have := HRL.out; omega)
        have hvt := valB_take1 r (k - 1) (by have := HRL.out; omega)
        rw [show k - 1 + 1 = k from by omega] at hvt
        have hv30 := valB_take_lt r k HR.out hk30
        have hb2 := isBits_get HR.out (k - 1)
        generalize hX : valB (r.take (k - 1)) = X at hvt ⊢
        generalize r.getD (k - 1) 0 = b at hvt hb2 hc1
        obtain ⟨hd, hhd⟩ : ∃ hd, valB (r.take k) = hd := ⟨_, rfl⟩
        rw [hhd] at hvt hv30
        have HHD := Lib.hid hhd
        have HVT := Lib.hid hvt
        have hxw : IntKind.i64.wrap (2 * (X : Int)) = ((2 * X : Nat) : Int) := by rw [show 2 * (X : Int) = ((2 * X : Nat) : Int) from by simp]; exact IntWalk.i64_in _ (by omega)
        have hxw2 : IntKind.i64.wrap (2 * (X : Int) + (b : Int)) = (hd : Int) := by rw [show 2 * (X : Int) + (b : Int) = (hd : Int) from by omega]; exact IntWalk.i64_in _ (by omega)
        have hxe : ((2 * X : Nat) : Int) + (b : Int) = (hd : Int) := by omega
        clear hX hhd hvt
        go_wp2_with fail
        go_loopw [4, 5, 7, 9] (fun cd at' fs x wr' => ∃ y : Nat, y ≤ 256 ∧ FndI k hd y ∧ x = .int .i64 y ∧ cd = .int .i64 ((cAt k y).1 : Nat) ∧ at' = .int .i64 ((cAt k y).2.1 : Nat) ∧ fs = .bool (cAt k y).2.2 ∧ wr' = wr) (fun _ _ _ x _ => 256 - (intOf x).toNat)
        case atStart => exact ⟨0, by omega, (fun c hc => by omega), rfl, rfl, rfl, rfl, rfl⟩
        case round =>
          obtain ⟨y, hy, hni, rfl, rfl, rfl, rfl, rfl⟩ := hrel
          have HNI := Lib.hid hni
          clear hni
          by_cases hlt : y < 256
          · have hyi : (y : Int) < 256 := by omega
            have hw8 : IntKind.u8.wrap (y : Int) = y := IntWalk.u8_in _ (by omega)
            have HFD := Lib.hid (show lenOf y = k → codeOf y = hd → (lenOf y = k ∧ k ≤ r.length ∧ r.take k = codeBits y) from fun h1 h2 => ⟨h1, by have := HRL.out; omega, code_is HR.out (by have := HRL.out; omega) h1 (by rw [h2, HHD.out])⟩)
            have HCD := Lib.hid (cAt_code k y hk1 (by omega) hlt)
            have HUP := Lib.hid (cAt_up k y)
            have HSK := Lib.hid (cAt_skip k y)
            generalize cAt k y = S at HCD HUP HSK
            obtain ⟨C, A, f⟩ := S
            go_wp2_with fail
            refine (refLength_any y hlt _).mono ?_
            rintro e w' ⟨rfl, hw⟩
            obtain rfl := hw
            by_cases hl : lenOf y = k
            · obtain ⟨hcd, hA⟩ := HCD.out hl
              have hup := HUP.out hl
              have hlt30 := code_lt30 y hlt
              rw [← hcd] at hlt30
              simp only [cUp] at hcd hup hA hlt30
              have hli : ((lenOf y : Nat) : Int) = (k : Int) := by omega
              cases f
              · simp only [Bool.false_eq_true, if_false] at hcd hup hlt30
                have hD : C + 1 < 1073741824 := Nat.lt_of_le_of_lt (Nat.le_mul_of_pos_right _ (Nat.two_pow_pos _)) hlt30
                have hDw : IntKind.i64.wrap ((C : Int) + 1) = ((C + 1 : Nat) : Int) := by rw [show ((C : Int) + 1) = ((C + 1 : Nat) : Int) from by simp]; exact IntWalk.i64_in _ (by omega)
                have HLT := Lib.hid hlt30
                have HCO := Lib.hid hcd
                have HU := Lib.hid hup
                clear hcd hup hlt30 HCD HUP HSK
                go_wp2_with fail
                generalize hDD : C + 1 = D at HLT HCO HU hD
                go_loopw [4, 5] (fun cd at' wr' => ∃ j : Nat, A + j ≤ k ∧ at' = .int .i64 ((A + j : Nat) : Int) ∧ cd = .int .i64 ((D * 2 ^ j : Nat) : Int) ∧ wr' = wr) (fun _ at' _ => k - (intOf at').toNat)
                case atStart => exact ⟨0, hA, by simp, by subst hDD; simp; try omega, rfl⟩
                case round =>
                  obtain ⟨j, hj, rfl, rfl, rfl⟩ := hrel
                  by_cases hjk : A + j < k
                  · have hup2 := up_le (C := D) (show A + (j + 1) ≤ k by omega)
                    have HLT2 := HLT.out
                    rw [Nat.pow_succ, ← Nat.mul_assoc] at hup2
                    have hji : ((A + j : Nat) : Int) < (k : Int) := by omega
                    have HJ := Lib.hid (show D * 2 ^ (j + 1) = 2 * (D * 2 ^ j) from by rw [Nat.pow_succ, ← Nat.mul_assoc, Nat.mul_comm])
                    generalize D * 2 ^ j = E at hup2 HJ ⊢
                    have hE : E < 1073741824 := by omega
                    have hEw : IntKind.i64.wrap (2 * (E : Int)) = ((2 * E : Nat) : Int) := by rw [show 2 * (E : Int) = ((2 * E : Nat) : Int) from by simp]; exact IntWalk.i64_in _ (by omega)
                    clear hup2 HLT2
                    obtain ⟨q, hq⟩ : ∃ q, A + j = q := ⟨_, rfl⟩
                    rw [hq] at hji ⊢
                    go_wp2_with fail
                    go_roundw
                    case rel => exact ⟨j + 1, by omega, by simp; omega, by rw [HJ.out]; simp, by trivial⟩
                    case measure => simp [intOf]; omega
                  · have hji : ¬ (((A + j : Nat) : Int) < (k : Int)) := by omega
                    have hjq : j = k - A := by omega
                    subst hjq
                    have hak : A + (k - A) = k := by omega
                    rw [hak] at hji ⊢
                    rw [HCO.out]
                    have hcl := code_lt30 y hlt
                    by_cases hyc : codeOf y = hd
                    · have HDC := Lib.hid (HFD.out hl hyc)
                      rw [hyc]
                      clear hyc hcl
                      go_wp2_with fail
                      refine bodyPost_ret (v := .tuple #[.int .u8 (y : Nat), .int .i64 (k : Nat)]) (by simp [results, Tryz.results80, go_sem]; try omega) rfl ⟨rfl, .inl ⟨y, k, hlt, HDC.out.1, HDC.out.2.1, HDC.out.2.2, rfl⟩⟩
                    · have hyi2 : ¬ (((codeOf y : Nat) : Int) = (hd : Int)) := by omega
                      have HCY := Lib.hid hyc
                      obtain ⟨cy, hcy⟩ : ∃ cy, codeOf y = cy := ⟨_, rfl⟩
                      have HCE := Lib.hid hcy
                      rw [hcy] at hyi2 hcl ⊢
                      clear hcy hyc
                      go_wp2_with fail
                      go_roundw
                      case rel => exact ⟨y + 1, by omega, FndI.step HNI.out (fun _ => HCY.out), by go_num, by rw [HU.out, HCO.out, HCE.out], by rw [HU.out], by rw [HU.out], by trivial⟩
                      case measure => simp [intOf]; omega
              · simp only [if_true] at hcd hup hlt30
                have hD : C < 1073741824 := Nat.lt_of_le_of_lt (Nat.le_mul_of_pos_right _ (Nat.two_pow_pos _)) hlt30
                have hDw : IntKind.i64.wrap ((C : Int)) = ((C : Nat) : Int) := by rw [show ((C : Int)) = ((C : Nat) : Int) from by simp]; exact IntWalk.i64_in _ (by omega)
                have HLT := Lib.hid hlt30
                have HCO := Lib.hid hcd
                have HU := Lib.hid hup
                clear hcd hup hlt30 HCD HUP HSK
                go_wp2_with fail
                generalize hDD : C = D at HLT HCO HU hD
                go_loopw [4, 5] (fun cd at' wr' => ∃ j : Nat, A + j ≤ k ∧ at' = .int .i64 ((A + j : Nat) : Int) ∧ cd = .int .i64 ((D * 2 ^ j : Nat) : Int) ∧ wr' = wr) (fun _ at' _ => k - (intOf at').toNat)
                case atStart => exact ⟨0, hA, by simp, by subst hDD; simp; try omega, rfl⟩
                case round =>
                  obtain ⟨j, hj, rfl, rfl, rfl⟩ := hrel
                  by_cases hjk : A + j < k
                  · have hup2 := up_le (C := D) (show A + (j + 1) ≤ k by omega)
                    have HLT2 := HLT.out
                    rw [Nat.pow_succ, ← Nat.mul_assoc] at hup2
                    have hji : ((A + j : Nat) : Int) < (k : Int) := by omega
                    have HJ := Lib.hid (show D * 2 ^ (j + 1) = 2 * (D * 2 ^ j) from by rw [Nat.pow_succ, ← Nat.mul_assoc, Nat.mul_comm])
                    generalize D * 2 ^ j = E at hup2 HJ ⊢
                    have hE : E < 1073741824 := by omega
                    have hEw : IntKind.i64.wrap (2 * (E : Int)) = ((2 * E : Nat) : Int) := by rw [show 2 * (E : Int) = ((2 * E : Nat) : Int) from by simp]; exact IntWalk.i64_in _ (by omega)
                    clear hup2 HLT2
                    obtain ⟨q, hq⟩ : ∃ q, A + j = q := ⟨_, rfl⟩
                    rw [hq] at hji ⊢
                    go_wp2_with fail
                    go_roundw
                    case rel => exact ⟨j + 1, by omega, by simp; omega, by rw [HJ.out]; simp, by trivial⟩
                    case measure => simp [intOf]; omega
                  · have hji : ¬ (((A + j : Nat) : Int) < (k : Int)) := by omega
                    have hjq : j = k - A := by omega
                    subst hjq
                    have hak : A + (k - A) = k := by omega
                    rw [hak] at hji ⊢
                    rw [HCO.out]
                    have hcl := code_lt30 y hlt
                    by_cases hyc : codeOf y = hd
                    · have HDC := Lib.hid (HFD.out hl hyc)
                      rw [hyc]
                      clear hyc hcl
                      go_wp2_with fail
                      refine bodyPost_ret (v := .tuple #[.int .u8 (y : Nat), .int .i64 (k : Nat)]) (by simp [results, Tryz.results80, go_sem]; try omega) rfl ⟨rfl, .inl ⟨y, k, hlt, HDC.out.1, HDC.out.2.1, HDC.out.2.2, rfl⟩⟩
                    · have hyi2 : ¬ (((codeOf y : Nat) : Int) = (hd : Int)) := by omega
                      have HCY := Lib.hid hyc
                      obtain ⟨cy, hcy⟩ : ∃ cy, codeOf y = cy := ⟨_, rfl⟩
                      have HCE := Lib.hid hcy
                      rw [hcy] at hyi2 hcl ⊢
                      clear hcy hyc
                      go_wp2_with fail
                      go_roundw
                      case rel => exact ⟨y + 1, by omega, FndI.step HNI.out (fun _ => HCY.out), by go_num, by rw [HU.out, HCO.out, HCE.out], by rw [HU.out], by rw [HU.out], by trivial⟩
                      case measure => simp [intOf]; omega
            · have hli : ¬ (((lenOf y : Nat) : Int) = (k : Int)) := by omega
              have hsk := HSK.out hl
              have HS := Lib.hid hsk
              have HCY := Lib.hid hl
              clear hsk HSK HUP HCD
              go_wp2_with fail
              go_roundw
              case rel => exact ⟨y + 1, by omega, FndI.step HNI.out (fun h => absurd h HCY.out), by go_num, by rw [HS.out], by rw [HS.out], by rw [HS.out], by trivial⟩
              case measure => simp [intOf]; omega
          · obtain rfl : y = 256 := by omega
            have hnx := cAt_next k hk1
            have HNX := Lib.hid hnx
            have HFX := Lib.hid (Fnd.next HFN.out HHD.out.symm HNI.out)
            clear hnx
            go_wp2_with fail
            go_roundw
            case rel => exact ⟨k + 1, by omega, by omega, by omega, by go_num, by rw [Nat.add_sub_cancel, HHD.out], by rw [HNX.out], by rw [HNX.out], by rw [HNX.out], HFX.out, by trivial⟩
            case measure => simp [intOf]; omega
      · have hkRi : ¬ ((k : Int) ≤ (R : Int)) := by omega
        have HNO := Lib.hid (Fnd.none HFN.out (.inl (by have := HRL.out; omega)))
        go_wp2_with fail
        refine bodyPost_ret (v := .tuple #[.int .u8 0, .int .i64 0]) (by simp [results, Tryz.results80, go_sem]) rfl ⟨rfl, .inr ⟨HNO.out, rfl⟩⟩
    · have hki : ¬ ((k : Int) ≤ 30) := by omega
      have HNO := Lib.hid (Fnd.none HFN.out (.inr (by omega)))
      go_wp2_with fail
      refine bodyPost_ret (v := .tuple #[.int .u8 0, .int .i64 0]) (by simp [results, Tryz.results80, go_sem]) rfl ⟨rfl, .inr ⟨HNO.out, rfl⟩⟩
end Go.Proofs.YteceinojmdgmeaaGreat

