/- RepO · GrtP · GrtQ · GrtL: joined by a program, for a claim has at most 60 files. -/
import Derived.Test.YteceinojmdgmeaaC36
import Derived.Test.YteceinojmdgmeaaC38
/- What is put is got (numbers), plain. -/
namespace Go.Proofs.Yteceinojmdgmeaa
open Go.RowKit
set_option linter.unusedVariables false
set_option linter.unusedSimpArgs false

theorem groupsN_le : ∀ (j m : Nat), m < 128 ^ (j + 1) → (groupsN m).length ≤ j + 1 := by
  intro j
  induction j with
  | zero => intro m h; rw [groupsN_lo m (by simpa using h)]; simp
  | succ j ih =>
    intro m h
    by_cases hm : m < 128
    · rw [groupsN_lo m hm]; simp
    · rw [groupsN_hi m hm]
      have := ih (m / 128) (by rw [Nat.div_lt_iff_lt_mul (by omega)]; rw [Nat.pow_succ] at h; exact h)
      simp only [List.length_cons]
      omega
theorem getGo_groups (r : List Nat) : ∀ (m : Nat) (pre : List Nat) (j i n : Nat), pre.length = i + 1 → (groupsN m).length ≤ j → n + m * 128 ^ i ≤ 268435455 → getGo (pre ++ groupsN m ++ r) j i n = (n + m * 128 ^ i, i + 1 + (groupsN m).length, 0) := by
  intro m
  induction m using Nat.strongRecOn with
  | _ m ih =>
    intro pre j i n hp hj hb
    by_cases h : m < 128
    · rw [groupsN_lo m h] at hj ⊢
      obtain ⟨j, rfl⟩ : ∃ j', j = j' + 1 := ⟨j - 1, by simp at hj; omega⟩
      unfold getGo
      have he : (pre ++ [m] ++ r)[i + 1]? = some m := by
        rw [List.append_assoc, List.getElem?_append_right (by omega), hp]; simp
      rw [he]
      simp only
      rw [if_neg (by omega), Nat.mod_eq_of_lt h, if_neg (by omega)]
      simp
    · rw [groupsN_hi m h] at hj ⊢
      obtain ⟨j, rfl⟩ : ∃ j', j = j' + 1 := ⟨j - 1, by simp at hj; omega⟩
      unfold getGo
      have he : (pre ++ (m % 128 + 128) :: groupsN (m / 128) ++ r)[i + 1]? = some (m % 128 + 128) := by
        rw [List.append_assoc, List.getElem?_append_right (by omega), hp]; simp
      rw [he]
      simp only
      rw [if_pos (by omega), show (m % 128 + 128) % 128 = m % 128 from by omega]
      have hm : m % 128 * 128 ^ i + m / 128 * 128 ^ (i + 1) = m * 128 ^ i := by
        rw [Nat.pow_succ, Nat.mul_comm (128 ^ i) 128, ← Nat.mul_assoc, ← Nat.add_mul]
        congr 1
        omega
      have h2 := ih (m / 128) (by omega) (pre ++ [m % 128 + 128]) j (i + 1) (n + m % 128 * 128 ^ i) (by simp [hp]) (by simp at hj; omega) (by omega)
      rw [show pre ++ (m % 128 + 128) :: groupsN (m / 128) ++ r = pre ++ [m % 128 + 128] ++ groupsN (m / 128) ++ r from by simp, h2]
      simp only [List.length_cons]
      rw [Nat.add_assoc, hm]
      congr 2
      omega
theorem rest_mod (f k x : Nat) (hx : x < 2 ^ k) : (restN f k + x) % 2 ^ k = x := by
  unfold restN
  rw [Nat.mul_comm, Nat.mul_add_mod, Nat.mod_eq_of_lt hx]
theorem getN_put (f k n : Nat) (hk : K4 k) (hn : n ≤ 268435455) (r : List Nat) : getN (putN f k n ++ r) k = (n, (putN f k n).length, 0) := by
  have hp : 16 ≤ 2 ^ k := by rcases hk with rfl | rfl | rfl | rfl <;> decide
  unfold putN
  by_cases h : n < 2 ^ k - 1
  · rw [if_pos h]
    unfold getN
    simp only [List.cons_append]
    rw [rest_mod f k n (by omega), if_pos h]
    rfl
  · rw [if_neg h]
    unfold getN
    simp only [List.cons_append]
    rw [rest_mod f k (2 ^ k - 1) (by omega), if_neg (by omega)]
    have := getGo_groups r (n - (2 ^ k - 1)) [restN f k + (2 ^ k - 1)] 5 0 (2 ^ k - 1) rfl (Nat.le_trans (groupsN_le 3 _ (by omega)) (by omega)) (by simp; omega)
    simp only [List.cons_append, List.nil_append] at this
    rw [this]
    simp only [List.length_cons, Nat.pow_zero, Nat.mul_one]
    congr 1
    · omega
    · congr 1; omega
theorem textG_long (f n : Nat) (hn : n ≤ 268435455) (h : 4096 < n) : (textG (putN f 7 n)).2.2 = 5 := by
  have hg := getN_put f 7 n (by unfold K4; decide) hn []
  rw [List.append_nil] at hg
  unfold textG
  rw [hg]
  simp only
  rw [if_neg (by simp), if_pos h]
theorem textG_cut (f n : Nat) (h0 : 1 ≤ n) (h : n ≤ 4096) : (textG (putN f 7 n)).2.2 = 3 := by
  have hg := getN_put f 7 n (by unfold K4; decide) (by omega) []
  rw [List.append_nil] at hg
  unfold textG
  rw [hg]
  simp only
  rw [if_neg (by simp), if_neg (by omega), if_pos (by omega)]
end Go.Proofs.Yteceinojmdgmeaa


/- Texts of up to 100 bytes: an item's bytes are got as the item. -/
namespace Go.Proofs.Yteceinojmdgmeaa
open Go.RowKit
set_option linter.unusedVariables false
set_option linter.unusedSimpArgs false

theorem putN_head (f k n : Nat) : ∃ x l, putN f k n = (restN f k + x) :: l ∧ x ≤ 2 ^ k - 1 := by
  unfold putN
  by_cases h : n < 2 ^ k - 1
  · rw [if_pos h]; exact ⟨_, _, rfl, by omega⟩
  · rw [if_neg h]; exact ⟨_, _, rfl, by omega⟩
theorem putN_len6 (f k n : Nat) (hk : K4 k) (hn : n ≤ 268435455) : (putN f k n).length ≤ 6 := by
  unfold putN
  split
  · simp
  · have := groupsN_le 3 (n - (2 ^ k - 1)) (by omega)
    simp only [List.length_cons]
    omega
theorem putN_bytes (f k n : Nat) (hf : f < 256) (hk : K4 k) : ∀ x ∈ putN f k n, x < 256 := by
  intro x hx
  unfold putN at hx
  have hr := fun y hy => (or_rest f k y hf hk hy).2
  split at hx
  · simp at hx; subst hx; exact hr _ (by omega)
  · rcases List.mem_cons.1 hx with rfl | h
    · exact hr _ (Nat.le_refl _)
    · exact groupsN_byte _ x h
theorem kind_head (k : Nat) (hk : k ≤ 4) (x : Nat) (hx : x ≤ 2 ^ formB k - 1) : kindN (restN (formF k) (formB k) + x) = k := by
  have h0 : ∀ x, x ≤ 127 → kindN (restN (formF 0) (formB 0) + x) = 0 := by decide +kernel
  have h1 : ∀ x, x ≤ 63 → kindN (restN (formF 1) (formB 1) + x) = 1 := by decide +kernel
  have h2 : ∀ x, x ≤ 15 → kindN (restN (formF 2) (formB 2) + x) = 2 := by decide +kernel
  have h3 : ∀ x, x ≤ 15 → kindN (restN (formF 3) (formB 3) + x) = 3 := by decide +kernel
  have h4 : ∀ x, x ≤ 31 → kindN (restN (formF 4) (formB 4) + x) = 4 := by decide +kernel
  rcases (show k = 0 ∨ k = 1 ∨ k = 2 ∨ k = 3 ∨ k = 4 from by omega) with rfl | rfl | rfl | rfl | rfl
  · exact h0 x hx
  · exact h1 x hx
  · exact h2 x hx
  · exact h3 x hx
  · exact h4 x hx
theorem bsB_bytes (s : ByteArray) : bsB (bytesU s) = s := by
  unfold bsB bytesU
  rw [List.map_map]
  have : (UInt8.ofNat ∘ UInt8.toNat) = id := by funext x; simp
  rw [this, List.map_id]
theorem sizeL_100 (s : ByteArray) (h : s.size ≤ 100) : sizeL s.data.toList ≤ 500 := by
  have h1 := textBits_len s.data.toList
  have h2 := textBits_le s.data.toList
  have h3 : s.data.toList.length = s.size := by rw [Array.length_toList]; rfl
  unfold sizeL
  omega
theorem textN_cases (s : ByteArray) : (textN s = putN 128 7 (sizeL s.data.toList) ++ encL s.data.toList ∧ (putN 0 7 (sizeL s.data.toList)).length + sizeL s.data.toList < (putN 0 7 s.size).length + s.size) ∨ textN s = putN 0 7 s.size ++ bytesU s := by
  unfold textN
  split
  · rename_i h; exact .inl ⟨rfl, h⟩
  · exact .inr rfl
theorem putN_len_f (f g k n : Nat) : (putN f k n).length = (putN g k n).length := by unfold putN; split <;> simp
theorem put0_100 (n : Nat) (h : n ≤ 100) : putN 0 7 n = [n] := by
  unfold putN
  rw [if_pos (by omega)]
  simp [restN]
theorem textN_len100 (s : ByteArray) (h : s.size ≤ 100) : (textN s).length ≤ 1 + s.size := by
  have hp := put0_100 s.size h
  rcases textN_cases s with ⟨e, hlt⟩ | e
  · rw [e, List.length_append, encL_len, putN_len_f 128 0]
    rw [hp] at hlt
    simp at hlt
    omega
  · rw [e, hp, List.length_append, bytesU_len]
    simp
theorem textN_bytes (s : ByteArray) : ∀ x ∈ textN s, x < 256 := by
  intro x hx
  rcases textN_cases s with ⟨e, _⟩ | e
  · rw [e] at hx
    rcases List.mem_append.1 hx with h | h
    · exact putN_bytes 128 7 _ (by omega) (by unfold K4; decide) x h
    · exact encL_byte _ x h
  · rw [e] at hx
    rcases List.mem_append.1 hx with h | h
    · exact putN_bytes 0 7 _ (by omega) (by unfold K4; decide) x h
    · unfold bytesU at h
      obtain ⟨u, _, rfl⟩ := List.mem_map.1 h
      exact u.toNat_lt
theorem drop_take_mid (a b c : List Nat) : ((a ++ b ++ c).drop a.length).take b.length = b := by
  rw [List.append_assoc, List.drop_left, List.take_left]
/-- A text's bytes, and whatever comes behind, are got as the text. -/
theorem textG_put (s : ByteArray) (h : s.size ≤ 100) (r : List Nat) : textG (textN s ++ r) = (s, (textN s).length, 0) := by
  rcases textN_cases s with ⟨e, _⟩ | e
  · have hz := sizeL_100 s h
    obtain ⟨x, l, he, _⟩ := putN_head 128 7 (sizeL s.data.toList)
    have hg := getN_put 128 7 (sizeL s.data.toList) (by unfold K4; decide) (by omega) (encL s.data.toList ++ r)
    rw [← List.append_assoc] at hg
    have hd := drop_take_mid (putN 128 7 (sizeL s.data.toList)) (encL s.data.toList) r
    rw [encL_len] at hd
    unfold textG
    rw [e, hg]
    simp only
    rw [if_neg (by simp), if_neg (by omega), if_neg (by simp only [List.length_append, encL_len]; omega), if_neg (by rw [he]; simp [restN]), hd, dec_enc]
    simp only [List.length_append, encL_len]
  · have hp := put0_100 s.size h
    have hg := getN_put 0 7 s.size (by unfold K4; decide) (by omega) (bytesU s ++ r)
    rw [← List.append_assoc] at hg
    have hd := drop_take_mid (putN 0 7 s.size) (bytesU s) r
    rw [bytesU_len] at hd
    unfold textG
    rw [e, hg]
    simp only
    rw [if_neg (by simp), if_neg (by omega), if_neg (by simp only [List.length_append, bytesU_len]; omega), if_pos (by rw [hp]; simp; omega), hd, bsB_bytes]
    simp only [List.length_append, bytesU_len]
theorem itemG_eq (bs : List Nat) (h : bs ≠ []) : itemG bs = if (getN bs (formB (kindN (bs.getD 0 0)))).2.2 ≠ 0 then (Itm.zero, 0, (getN bs (formB (kindN (bs.getD 0 0)))).2.2)
    else if kindN (bs.getD 0 0) = 0 ∧ (getN bs (formB (kindN (bs.getD 0 0)))).1 = 0 then (Itm.zero, 0, 4)
    else goParts bs (partsOf (kindN (bs.getD 0 0)) (getN bs (formB (kindN (bs.getD 0 0)))).1) ⟨kindN (bs.getD 0 0), ((getN bs (formB (kindN (bs.getD 0 0)))).1 : Nat), ByteArray.empty, ByteArray.empty⟩ (getN bs (formB (kindN (bs.getD 0 0)))).2.1 := by
  cases bs with
  | nil => exact absurd rfl h
  | cons b l => rfl
theorem empty_of {s : ByteArray} (h : s.toList.isEmpty = true) : s = ByteArray.empty := by
  by_cases he : s = ByteArray.empty
  · exact he
  · have h1 := toList_ne he
    have h2 : s.toList = [] := by simpa using h
    have h3 : ByteArray.empty.toList = [] := by decide +kernel
    rw [h2, h3] at h1
    cases h1
theorem chk_facts {x : Itm} (h : chkI x = 0) : x.kind ≤ 4 ∧ 0 ≤ x.index ∧ x.index ≤ 268435455 ∧ ¬ (x.kind = 0 ∧ x.index = 0) ∧ extraI x = false := by
  unfold chkI at h
  split at h
  · omega
  split at h
  · omega
  split at h
  · omega
  rename_i h1 h2 h3
  refine ⟨by omega, by omega, by omega, by omega, by simpa using h3⟩
/-- An item's bytes, and whatever comes behind, are got as the item. -/
theorem itemG_put (x : Itm) (hc : chkI x = 0) (hn : x.name.size ≤ 100) (hv : x.value.size ≤ 100) (r : List Nat) : itemG (itemN x ++ r) = (x, (itemN x).length, 0) := by
  obtain ⟨hk, hi0, hi1, hk0, hex⟩ := chk_facts hc
  obtain ⟨k, i, nm, vl⟩ := x
  simp only at hk hi0 hi1 hk0 hn hv
  obtain ⟨n, rfl⟩ : ∃ n : Nat, i = n := ⟨i.toNat, by omega⟩
  have hkk := (form_k4 k hk).2
  obtain ⟨y, l, he, hy⟩ := putN_head (formF k) (formB k) n
  have hkh := kind_head k hk y hy
  unfold itemN
  simp only [Int.toNat_natCast]
  generalize hT : (if litK k = true then (if (n : Int) = 0 then textN nm else []) ++ textN vl else []) = T
  have hb : (putN (formF k) (formB k) n ++ T ++ r).getD 0 0 = restN (formF k) (formB k) + y := by rw [he]; rfl
  have hg := getN_put (formF k) (formB k) n hkk (by omega) (T ++ r)
  rw [← List.append_assoc] at hg
  rw [itemG_eq _ (by rw [he]; simp), hb, hkh, hg]
  simp only
  rw [if_neg (by simp), if_neg (fun h => hk0 ⟨h.1, by omega⟩)]
  have hdr : (putN (formF k) (formB k) n ++ T ++ r).drop (putN (formF k) (formB k) n).length = T ++ r := by rw [List.append_assoc, List.drop_left]
  unfold extraI at hex
  simp only at hex
  unfold partsOf
  cases hl : litK k
  · rw [hl] at hex hT
    simp at hex hT
    subst hT
    rw [if_neg (by simp)]
    unfold goParts
    rw [empty_of (s := nm) (by simpa using hex.1), empty_of (s := vl) (by simpa using hex.2)]
    simp
  · rw [hl] at hex hT
    simp only [if_true] at hex hT
    rw [if_pos rfl]
    by_cases hn0 : n = 0
    · subst hn0
      simp only [Int.natCast_zero, if_true] at hT ⊢
      subst hT
      unfold goParts
      rw [hdr, List.append_assoc, textG_put nm hn]
      simp only
      rw [if_neg (by simp)]
      have hdr2 : (putN (formF k) (formB k) 0 ++ (textN nm ++ textN vl) ++ r).drop ((putN (formF k) (formB k) 0).length + (textN nm).length) = textN vl ++ r := by
        rw [show putN (formF k) (formB k) 0 ++ (textN nm ++ textN vl) ++ r = (putN (formF k) (formB k) 0 ++ textN nm) ++ (textN vl ++ r) from by simp, ← List.length_append, List.drop_left]
      unfold goParts
      rw [hdr2, textG_put vl hv]
      simp only
      rw [if_neg (by simp)]
      unfold goParts
      simp [Itm.put]
      omega
    · rw [if_neg (by omega)] at hT
      rw [if_neg hn0]
      simp only [List.nil_append] at hT
      subst hT
      have hnm : nm = ByteArray.empty := empty_of (by
        have : decide ((0 : Int) < (n : Int)) = true := decide_eq_true (by omega)
        rw [this] at hex
        simpa using hex)
      unfold goParts
      rw [hdr, textG_put vl hv]
      simp only
      rw [if_neg (by simp)]
      unfold goParts
      rw [hnm]
      simp [Itm.put]
theorem itemN_pos (x : Itm) : itemN x ≠ [] := by
  unfold itemN
  obtain ⟨y, l, he, _⟩ := putN_head (formF x.kind) (formB x.kind) x.index.toNat
  rw [he]
  simp
theorem itemN_len100 (x : Itm) (hc : chkI x = 0) (hn : x.name.size ≤ 100) (hv : x.value.size ≤ 100) : (itemN x).length ≤ 6 + 1 + x.name.size + 1 + x.value.size := by
  obtain ⟨hk, hi0, hi1, hk0, hex⟩ := chk_facts hc
  have h1 := putN_len6 (formF x.kind) (formB x.kind) x.index.toNat (form_k4 x.kind hk).2 (by omega)
  have h2 := textN_len100 x.name hn
  have h3 := textN_len100 x.value hv
  unfold itemN
  rw [List.length_append]
  split
  · split
    · rw [List.length_append]; omega
    · rw [List.length_append]; simp; omega
  · simp; omega
theorem itemN_bytes (x : Itm) (hc : chkI x = 0) : ∀ y ∈ itemN x, y < 256 := by
  obtain ⟨hk, _⟩ := chk_facts hc
  have hf := form_k4 x.kind hk
  intro y hy
  unfold itemN at hy
  rcases List.mem_append.1 hy with h | h
  · exact putN_bytes _ _ _ hf.1 hf.2 y h
  · split at h
    · rcases List.mem_append.1 h with h | h
      · split at h
        · exact textN_bytes _ y h
        · simp at h
      · exact textN_bytes _ y h
    · simp at h
end Go.Proofs.Yteceinojmdgmeaa


/- Items of texts of up to 100 bytes: items from all their bytes; with a byte fewer. -/
namespace Go.Proofs.Yteceinojmdgmeaa
open Go.RowKit
set_option linter.unusedVariables false
set_option linter.unusedSimpArgs false

theorem getGo_mono (bs r : List Nat) : ∀ j i n, (getGo bs j i n).2.2 = 0 → getGo (bs ++ r) j i n = getGo bs j i n
  | 0, i, n, h => rfl
  | j + 1, i, n, h => by
    unfold getGo at h ⊢
    cases hc : bs[i + 1]? with
    | none => rw [hc] at h; simp at h
    | some c =>
      have hl : i + 1 < bs.length := (List.getElem?_eq_some_iff.1 hc).1
      rw [hc] at h
      rw [List.getElem?_append_left hl, hc]
      simp only at h ⊢
      split at h
      · rename_i h1
        rw [if_pos h1, if_pos h1, getGo_mono bs r j (i + 1) _ h]
      · rename_i h1
        rw [if_neg h1, if_neg h1]
theorem getN_mono (bs r : List Nat) (k : Nat) (h : (getN bs k).2.2 = 0) : getN (bs ++ r) k = getN bs k := by
  cases bs with
  | nil => simp [getN] at h
  | cons b l =>
    unfold getN at h ⊢
    simp only [List.cons_append] at h ⊢
    split at h
    · rename_i h1
      rw [if_pos h1, if_pos h1]
    · rename_i h1
      rw [if_neg h1, if_neg h1]
      exact getGo_mono (b :: l) r 5 0 _ h
theorem getD_app (bs r : List Nat) (h : bs ≠ []) : (bs ++ r).getD 0 0 = bs.getD 0 0 := by
  cases bs with
  | nil => exact absurd rfl h
  | cons b l => rfl
theorem textG_mono (bs r : List Nat) (h : (textG bs).2.2 = 0) : textG (bs ++ r) = textG bs := by
  have hne : bs ≠ [] := by intro e; subst e; simp [textG, getN] at h
  unfold textG at h ⊢
  by_cases h1 : (getN bs 7).2.2 = 0
  · have hok := getN_ok bs 7 (by unfold K4; decide) h1
    rw [getN_mono bs r 7 h1]
    have h1' : ¬ ((getN bs 7).2.2 ≠ 0) := fun h => h h1
    rw [if_neg h1'] at h
    rw [if_neg h1', if_neg h1']
    by_cases h2 : 4096 < (getN bs 7).1
    · rw [if_pos h2] at h; simp at h
    · rw [if_neg h2] at h
      rw [if_neg h2, if_neg h2]
      by_cases h3 : bs.length < (getN bs 7).2.1 + (getN bs 7).1
      · rw [if_pos h3] at h; simp at h
      · rw [if_neg h3] at h
        have h3' : ¬ ((bs ++ r).length < (getN bs 7).2.1 + (getN bs 7).1) := by rw [List.length_append]; omega
        rw [if_neg h3, if_neg h3', getD_app bs r hne, List.drop_append_of_le_length (by omega), List.take_append_of_le_length (by rw [List.length_drop]; omega)]
  · rw [if_pos h1] at h
    exact absurd h h1
theorem goParts_mono (bs r : List Nat) : ∀ (ps : List Bool) (x : Itm) (a : Nat), a ≤ bs.length → (goParts bs ps x a).2.2 = 0 → goParts (bs ++ r) ps x a = goParts bs ps x a
  | [], x, a, ha, h => rfl
  | p :: ps, x, a, ha, h => by
    unfold goParts at h ⊢
    by_cases he : (textG (bs.drop a)).2.2 = 0
    · have hk := textG_ok _ he
      rw [List.length_drop] at hk
      rw [if_neg (by simpa using he)] at h
      rw [List.drop_append_of_le_length ha, textG_mono _ r he, if_neg (by simpa using he), if_neg (by simpa using he)]
      exact goParts_mono bs r ps _ _ (by omega) h
    · rw [if_pos he] at h
      exact absurd h he
theorem itemG_mono (bs r : List Nat) (h : (itemG bs).2.2 = 0) : itemG (bs ++ r) = itemG bs := by
  have hne : bs ≠ [] := by intro e; subst e; simp [itemG] at h
  have hne2 : bs ++ r ≠ [] := by simp [hne]
  rw [itemG_eq bs hne] at h ⊢
  rw [itemG_eq _ hne2, getD_app bs r hne]
  by_cases h1 : (getN bs (formB (kindN (bs.getD 0 0)))).2.2 = 0
  · have hok := getN_ok bs _ (form_k4 (kindN (bs.getD 0 0)) (kind_le _)).2 h1
    rw [getN_mono bs r _ h1]
    have h1' : ¬ ((getN bs (formB (kindN (bs.getD 0 0)))).2.2 ≠ 0) := fun h => h h1
    rw [if_neg h1'] at h
    rw [if_neg h1', if_neg h1']
    by_cases h2 : kindN (bs.getD 0 0) = 0 ∧ (getN bs (formB (kindN (bs.getD 0 0)))).1 = 0
    · rw [if_pos h2] at h; simp at h
    · rw [if_neg h2] at h
      rw [if_neg h2, if_neg h2]
      exact goParts_mono bs r _ _ _ hok.2.1 h
  · rw [if_pos h1] at h
    exact absurd h h1
/-- Items that may be, with texts of up to 100 bytes. -/
def OkI (x : Itm) : Prop := chkI x = 0 ∧ x.name.size ≤ 100 ∧ x.value.size ≤ 100
def catI (l : List Itm) : List Nat := l.flatMap itemN
theorem catI_cons (x : Itm) (l : List Itm) : catI (x :: l) = itemN x ++ catI l := by simp [catI]
theorem catI_append (a b : List Itm) : catI (a ++ b) = catI a ++ catI b := by simp [catI]
theorem allA_cat : ∀ (l : List Itm) (f : Nat) (L : List Itm) (r : List Nat), (∀ x ∈ l, OkI x) → allA (f + l.length) L (catI l ++ r) = allA f (L ++ l) r
  | [], f, L, r, _ => by simp [catI]
  | x :: l, f, L, r, h => by
    have hx := h x (by simp)
    have hp := itemG_put x hx.1 hx.2.1 hx.2.2 (catI l ++ r)
    rw [catI_cons, List.append_assoc, List.length_cons, ← Nat.add_assoc, allA_step _ _ _ (by simp [itemN_pos]), hp]
    simp only
    rw [if_neg (by simp), List.drop_left, allA_cat l f (L ++ [x]) r (fun y hy => h y (by simp [hy]))]
    simp
theorem catI_len (l : List Itm) : l.length ≤ (catI l).length := by
  induction l with
  | nil => simp
  | cons x l ih =>
    have : 0 < (itemN x).length := List.length_pos_iff.2 (itemN_pos x)
    rw [catI_cons, List.length_append, List.length_cons]
    omega
theorem allG_cat (l : List Itm) (h : ∀ x ∈ l, OkI x) : allG (catI l) = (l, 0) := by
  have hl := catI_len l
  unfold allG
  obtain ⟨f, hf⟩ : ∃ f, (catI l).length = f + l.length := ⟨(catI l).length - l.length, by omega⟩
  have := allA_cat l f [] [] h
  rw [List.append_nil] at this
  rw [hf, this, allA_nil]
  simp
theorem itemG_short (x : Itm) (h : OkI x) (P : List Nat) (c : Nat) (hP : itemN x = P ++ [c]) : (itemG P).2.2 ≠ 0 := by
  intro h0
  have h1 := itemG_mono P [c] h0
  have h2 := itemG_put x h.1 h.2.1 h.2.2 []
  have h3 := itemG_ok P h0
  rw [List.append_nil, hP, h1] at h2
  rw [h2] at h3
  simp at h3
  omega
theorem cutI (l : List Itm) (hl : l ≠ []) (h : ∀ x ∈ l, OkI x) : ((allG ((catI l).take ((catI l).length - 1))).2 ≠ 0 ∧ (allG ((catI l).take ((catI l).length - 1))).1 = []) ∨ ((allG ((catI l).take ((catI l).length - 1))).1.length = l.length - 1) := by
  obtain ⟨l, x, rfl⟩ : ∃ l' x, l = l' ++ [x] := ⟨l.dropLast, l.getLast hl, (List.dropLast_concat_getLast hl).symm⟩
  have hx := h x (by simp)
  obtain ⟨P, c, hP⟩ : ∃ P c, itemN x = P ++ [c] := ⟨(itemN x).dropLast, (itemN x).getLast (itemN_pos x), (List.dropLast_concat_getLast (itemN_pos x)).symm⟩
  have hc : catI (l ++ [x]) = (catI l ++ P) ++ [c] := by rw [catI_append, catI_cons, hP]; simp [catI]
  have ht : (catI (l ++ [x])).take ((catI (l ++ [x])).length - 1) = catI l ++ P := by
    rw [hc, show (catI l ++ P ++ [c]).length - 1 = (catI l ++ P).length from by simp only [List.length_append, List.length_cons, List.length_nil]; omega, List.take_left]
  rw [ht]
  have hlen := catI_len l
  unfold allG
  rw [List.length_append]
  obtain ⟨f, hf⟩ : ∃ f, (catI l).length + P.length = f + P.length + l.length := ⟨(catI l).length - l.length, by omega⟩
  rw [hf, allA_cat l _ [] P (fun y hy => h y (by simp [hy]))]
  by_cases hp : P = []
  · subst hp
    rw [allA_nil]
    right
    simp
  · have hlp : 0 < P.length := List.length_pos_iff.2 hp
    obtain ⟨f2, hf2⟩ : ∃ f2, f + P.length = f2 + 1 := ⟨f + P.length - 1, by omega⟩
    have he := itemG_short x hx P c hP
    left
    rw [hf2, allA_step _ _ _ hp, if_pos he]
    exact ⟨he, rfl⟩
theorem catI_bytes (l : List Itm) (h : ∀ x ∈ l, OkI x) : ∀ y ∈ catI l, y < 256 := by
  intro y hy
  obtain ⟨x, hx, hy⟩ := List.mem_flatMap.1 hy
  exact itemN_bytes x (h x hx).1 y hy
theorem catI_big (l : List Itm) (h : ∀ x ∈ l, OkI x) : (catI l).length ≤ 208 * l.length := by
  induction l with
  | nil => simp [catI]
  | cons x l ih =>
    have hx := h x (by simp)
    have h1 := itemN_len100 x hx.1 hx.2.1 hx.2.2
    have h2 := ih (fun y hy => h y (by simp [hy]))
    have h3 := hx.2.1
    have h4 := hx.2.2
    rw [catI_cons, List.length_append, List.length_cons]
    omega
end Go.Proofs.Yteceinojmdgmeaa


/- HdecGreat, plain: a block in two parts. -/
namespace Go.Proofs.Yteceinojmdgmeaa
open Go.RowKit
set_option linter.unusedVariables false
set_option linter.unusedSimpArgs false

/-- No item tells a size. -/
def noR (its : List Itm) : Prop := ∀ x ∈ its, x.kind ≠ 4
theorem sumF_app (a b : List Fld) : sumF (a ++ b) = sumF a + sumF b := by
  induction a with
  | nil => simp [sumF]
  | cons f t ih => simp only [List.cons_append, sumF, ih]; omega
theorem hRun_cons (cp : Int) (x : Itm) (t : List Itm) (mx : Int) (L : List Fld) (bg : Bool) (out : List Fld) (hx : x.kind ≠ 4) : hRun cp (x :: t) mx L bg out =
    if (hSt mx cp L x).2.2.2.2 ≠ 0 then (mx, L, out, (hSt mx cp L x).2.2.2.2)
    else if (hSt mx cp L x).2.2.2.1 = true then hRun cp t (hSt mx cp L x).1 (hSt mx cp L x).2.1 true (out ++ [(hSt mx cp L x).2.2.1])
    else hRun cp t (hSt mx cp L x).1 (hSt mx cp L x).2.1 bg out := by
  have c : ¬ (x.kind = 4 ∧ bg = true) := fun h => hx h.1
  show (if x.kind = 4 ∧ bg = true then (mx, L, out, 10) else _) = _
  rw [if_neg c]
theorem hRun_bg (cp : Int) : ∀ (its : List Itm) (mx : Int) (L : List Fld) (bg bg' : Bool) (out : List Fld), noR its → hRun cp its mx L bg out = hRun cp its mx L bg' out
  | [], mx, L, bg, bg', out, _ => rfl
  | x :: t, mx, L, bg, bg', out, h => by
    have hx := h x (by simp)
    have ht : noR t := fun y hy => h y (by simp [hy])
    rw [hRun_cons cp x t mx L bg out hx, hRun_cons cp x t mx L bg' out hx, hRun_bg cp t _ _ bg bg' out ht]
theorem hRun_out (cp : Int) : ∀ (its : List Itm) (mx : Int) (L : List Fld) (bg : Bool) (out : List Fld), hRun cp its mx L bg out = ((hRun cp its mx L bg []).1, (hRun cp its mx L bg []).2.1, out ++ (hRun cp its mx L bg []).2.2.1, (hRun cp its mx L bg []).2.2.2)
  | [], mx, L, bg, out => by simp [hRun]
  | x :: t, mx, L, bg, out => by
    unfold hRun
    split
    · simp
    · split
      · simp
      · split
        · rw [hRun_out cp t _ _ true (out ++ [(hSt mx cp L x).2.2.1]), hRun_out cp t _ _ true ([] ++ [(hSt mx cp L x).2.2.1])]
          simp
        · exact hRun_out cp t _ _ bg out
theorem hRun_app (cp : Int) : ∀ (a b : List Itm) (mx : Int) (L : List Fld) (bg : Bool) (out : List Fld), noR a → noR b →
    hRun cp (a ++ b) mx L bg out = if (hRun cp a mx L bg out).2.2.2 ≠ 0 then hRun cp a mx L bg out else hRun cp b (hRun cp a mx L bg out).1 (hRun cp a mx L bg out).2.1 false (hRun cp a mx L bg out).2.2.1
  | [], b, mx, L, bg, out, _, hb => by simp only [List.nil_append, hRun, ne_eq, not_true_eq_false, ↓reduceIte]; exact hRun_bg cp b mx L bg false out hb
  | x :: t, b, mx, L, bg, out, ha, hb => by
    have hx := ha x (by simp)
    have ht : noR t := fun y hy => ha y (by simp [hy])
    rw [List.cons_append]
    rw [hRun_cons cp x (t ++ b) mx L bg out hx, hRun_cons cp x t mx L bg out hx]
    by_cases h1 : (hSt mx cp L x).2.2.2.2 ≠ 0
    · rw [if_pos h1, if_pos h1, if_pos h1]
    · rw [if_neg h1, if_neg h1]
      by_cases h2 : (hSt mx cp L x).2.2.2.1 = true
      · rw [if_pos h2, if_pos h2]
        exact hRun_app cp t b _ _ _ _ ht hb
      · rw [if_neg h2, if_neg h2]
        exact hRun_app cp t b _ _ _ _ ht hb
theorem hRun_chk (cp : Int) : ∀ (its : List Itm) (mx : Int) (L : List Fld) (bg : Bool) (out : List Fld), hchk mx cp L = 0 → (hRun cp its mx L bg out).2.2.2 = 0 → hchk (hRun cp its mx L bg out).1 cp (hRun cp its mx L bg out).2.1 = 0
  | [], mx, L, bg, out, h, _ => h
  | x :: t, mx, L, bg, out, h, he => by
    unfold hRun at he ⊢
    split at he
    · cases he
    · rename_i c1
      rw [if_neg c1]
      split at he
      · rename_i c2; exact absurd he c2
      · rename_i c2
        rw [if_neg c2]
        have hc := hSt_chk x h (by omega)
        split at he
        · rename_i c3; rw [if_pos c3]; exact hRun_chk cp t _ _ _ _ hc he
        · rename_i c3; rw [if_neg c3]; exact hRun_chk cp t _ _ _ _ hc he
theorem hBlk_cat (mx cp : Int) (L : List Fld) (l : List Itm) (h0 : hchk mx cp L = 0) (hl : ∀ x ∈ l, OkI x) :
    hBlk mx cp L (catI l) = if (hRun cp l mx L false []).2.2.2 ≠ 0 then (mx, L, [], false, (hRun cp l mx L false []).2.2.2) else if 1024 < sumF (hRun cp l mx L false []).2.2.1 then ((hRun cp l mx L false []).1, (hRun cp l mx L false []).2.1, [], false, 0) else ((hRun cp l mx L false []).1, (hRun cp l mx L false []).2.1, (hRun cp l mx L false []).2.2.1, true, 0) := by
  unfold hBlk
  rw [allG_cat l hl, if_neg (by omega), if_neg (by simp)]
/-- A block, and the same in two parts. -/
theorem great_law (mx cp : Int) (L : List Fld) (a b : List Itm) (h0 : hchk mx cp L = 0) (ha : ∀ x ∈ a, OkI x) (hb : ∀ x ∈ b, OkI x) (na : noR a) (nb : noR b) (X Y Z : Int × List Fld × List Fld × Bool × Int)
    (hX : hBlk mx cp L (catI a ++ catI b) = X) (hY : hBlk mx cp L (catI a) = Y) (hZ : hBlk Y.1 cp Y.2.1 (catI b) = Z) :
    (X.2.2.2.2 ≠ 0 → (X.1 = mx ∧ X.2.1 = L) ∧ (Y.2.2.2.2 ≠ 0 ∨ Z.2.2.2.2 ≠ 0)) ∧
    (X.2.2.2.2 = 0 → Y.2.2.2.2 = 0 ∧ Z.2.2.2.2 = 0 ∧ X.1 = Z.1 ∧ X.2.1 = Z.2.1 ∧ hchk X.1 cp X.2.1 = 0 ∧
      ((Y.2.2.2.1 = true ∧ Z.2.2.2.1 = true ∧ sumF Y.2.2.1 + sumF Z.2.2.1 ≤ 1024) → X.2.2.2.1 = true ∧ X.2.2.1.length = Y.2.2.1.length + Z.2.2.1.length) ∧
      (¬(Y.2.2.2.1 = true ∧ Z.2.2.2.1 = true ∧ sumF Y.2.2.1 + sumF Z.2.2.1 ≤ 1024) → X.2.2.2.1 = false ∧ X.2.2.1 = [])) := by
  have hab : ∀ x ∈ a ++ b, OkI x := fun x hx => by rcases List.mem_append.1 hx with h | h; exact ha x h; exact hb x h
  rw [← catI_append, hBlk_cat mx cp L _ h0 hab, hRun_app cp a b mx L false [] na nb] at hX
  rw [hBlk_cat mx cp L _ h0 ha] at hY
  have hc := hRun_chk cp a mx L false [] h0
  generalize hRun cp a mx L false [] = r at hX hY hc
  obtain ⟨m1, L1, o1, e1⟩ := r
  dsimp only at hX hY hc
  by_cases c1 : e1 = 0
  · subst c1
    have hck := hc rfl
    simp only [ne_eq, not_true_eq_false, ↓reduceIte] at hX hY
    rw [hRun_out cp b m1 L1 false o1] at hX
    have hY12 : Y.1 = m1 ∧ Y.2.1 = L1 ∧ Y.2.2.2.2 = 0 ∧ ((1024 < sumF o1 ∧ Y.2.2.1 = [] ∧ Y.2.2.2.1 = false) ∨ (¬ 1024 < sumF o1 ∧ Y.2.2.1 = o1 ∧ Y.2.2.2.1 = true)) := by
      by_cases h : 1024 < sumF o1
      · rw [if_pos h] at hY; subst hY; exact ⟨rfl, rfl, rfl, .inl ⟨h, rfl, rfl⟩⟩
      · rw [if_neg h] at hY; subst hY; exact ⟨rfl, rfl, rfl, .inr ⟨h, rfl, rfl⟩⟩
    obtain ⟨y1, y2, y3, y4⟩ := hY12
    rw [y1, y2, hBlk_cat m1 cp L1 _ hck hb] at hZ
    have hc2 := hRun_chk cp b m1 L1 false [] hck
    generalize hRun cp b m1 L1 false [] = s at hX hZ hc2
    obtain ⟨m2, L2, o2, e2⟩ := s
    dsimp only at hX hZ hc2
    by_cases c2 : e2 = 0
    · subst c2
      simp only [ne_eq, not_true_eq_false, ↓reduceIte, sumF_app] at hX hZ
      have hck2 := hc2 rfl
      by_cases h : 1024 < sumF o2
      · rw [if_pos h] at hZ
        rw [if_pos (by omega)] at hX
        subst hZ; subst hX
        dsimp only
        refine ⟨fun h => absurd rfl h, fun _ => ⟨y3, rfl, rfl, rfl, hck2, fun hh => absurd hh.2.1 (by simp), fun _ => ⟨rfl, rfl⟩⟩⟩
      · rw [if_neg h] at hZ
        subst hZ
        rcases y4 with ⟨g, g1, g2⟩ | ⟨g, g1, g2⟩
        · rw [if_pos (by omega)] at hX
          subst hX
          dsimp only
          refine ⟨fun h => absurd rfl h, fun _ => ⟨y3, rfl, rfl, rfl, hck2, fun hh => absurd hh.1 (by rw [g2]; simp), fun _ => ⟨rfl, rfl⟩⟩⟩
        · rw [g1, g2]
          by_cases hs : 1024 < sumF o1 + sumF o2
          · rw [if_pos hs] at hX
            subst hX
            dsimp only
            refine ⟨fun h => absurd rfl h, fun _ => ⟨y3, rfl, rfl, rfl, hck2, fun hh => absurd hh.2.2 (by omega), fun _ => ⟨rfl, rfl⟩⟩⟩
          · rw [if_neg hs] at hX
            subst hX
            dsimp only
            refine ⟨fun h => absurd rfl h, fun _ => ⟨y3, rfl, rfl, rfl, hck2, fun _ => ⟨rfl, by rw [List.length_append]⟩, fun hh => absurd ⟨rfl, rfl, by omega⟩ hh⟩⟩
    · simp only [ne_eq, c2, not_false_eq_true, ↓reduceIte] at hX hZ
      subst hX; subst hZ
      dsimp only
      exact ⟨fun _ => ⟨⟨rfl, rfl⟩, .inr c2⟩, fun h => absurd h c2⟩
  · simp only [ne_eq, c1, not_false_eq_true, ↓reduceIte] at hX hY
    subst hX; subst hY
    dsimp only
    exact ⟨fun _ => ⟨⟨rfl, rfl⟩, .inl c1⟩, fun h => absurd h c1⟩
theorem hBlk_err (mx cp : Int) (L : List Fld) (bs : List Nat) : (hBlk mx cp L bs).2.2.2.2 = 0 ∨ (hBlk mx cp L bs).1 = mx ∧ (hBlk mx cp L bs).2.1 = L := by
  unfold hBlk
  split
  · exact .inr ⟨rfl, rfl⟩
  · split
    · exact .inr ⟨rfl, rfl⟩
    · split
      · exact .inr ⟨rfl, rfl⟩
      · split
        · exact .inl rfl
        · exact .inl rfl
theorem hBlk_chk (mx cp : Int) (L : List Fld) (bs : List Nat) (h : hchk mx cp L = 0) : hchk (hBlk mx cp L bs).1 cp (hBlk mx cp L bs).2.1 = 0 := by
  have hc := hRun_chk cp (allG bs).1 mx L false [] h
  unfold hBlk
  split
  · exact h
  · split
    · exact h
    · split
      · exact h
      · rename_i c
        split
        · exact hc (by omega)
        · exact hc (by omega)
end Go.Proofs.Yteceinojmdgmeaa

