/- RepO · GrtP: joined by a program, for a claim has at most 60 files. -/
import Derived.Test.YteceinojmdgmeaaC36
/- What is put is got (numbers), plain. -/
namespace Go.Proofs.Yteceinojmdgmeaa
open Go.RowKit
set_option linter.unusedVariables false
set_option linter.unusedSimpArgs false

theorem groupsN_le : ∀ (j m : Nat), m < 128 ^ (j + 1) → (groupsN m).length ≤ j + 1 := by
  intro j
  induction j with
  | zero => intro m h; rw [groupsN_lo m (by simpa using h)]; simp
  | succ j ih =>
    intro m h
    by_cases hm : m < 128
    · rw [groupsN_lo m hm]; simp
    · rw [groupsN_hi m hm]
      have := ih (m / 128) (by rw [Nat.div_lt_iff_lt_mul (by omega)]; rw [Nat.pow_succ] at h; exact h)
      simp only [List.length_cons]
      omega
theorem getGo_groups (r : List Nat) : ∀ (m : Nat) (pre : List Nat) (j i n : Nat), pre.length = i + 1 → (groupsN m).length ≤ j → n + m * 128 ^ i ≤ 268435455 → getGo (pre ++ groupsN m ++ r) j i n = (n + m * 128 ^ i, i + 1 + (groupsN m).length, 0) := by
  intro m
  induction m using Nat.strongRecOn with
  | _ m ih =>
    intro pre j i n hp hj hb
    by_cases h : m < 128
    · rw [groupsN_lo m h] at hj ⊢
      obtain ⟨j, rfl⟩ : ∃ j', j = j' + 1 := ⟨j - 1, by simp at hj; omega⟩
      unfold getGo
      have he : (pre ++ [m] ++ r)[i + 1]? = some m := by
        rw [List.append_assoc, List.getElem?_append_right (by omega), hp]; simp
      rw [he]
      simp only
      rw [if_neg (by omega), Nat.mod_eq_of_lt h, if_neg (by omega)]
      simp
    · rw [groupsN_hi m h] at hj ⊢
      obtain ⟨j, rfl⟩ : ∃ j', j = j' + 1 := ⟨j - 1, by simp at hj; omega⟩
      unfold getGo
      have he : (pre ++ (m % 128 + 128) :: groupsN (m / 128) ++ r)[i + 1]? = some (m % 128 + 128) := by
        rw [List.append_assoc, List.getElem?_append_right (by omega), hp]; simp
      rw [he]
      simp only
      rw [if_pos (by omega), show (m % 128 + 128) % 128 = m % 128 from by omega]
      have hm : m % 128 * 128 ^ i + m / 128 * 128 ^ (i + 1) = m * 128 ^ i := by
        rw [Nat.pow_succ, Nat.mul_comm (128 ^ i) 128, ← Nat.mul_assoc, ← Nat.add_mul]
        congr 1
        omega
      have h2 := ih (m / 128) (by omega) (pre ++ [m % 128 + 128]) j (i + 1) (n + m % 128 * 128 ^ i) (by simp [hp]) (by simp at hj; omega) (by omega)
      rw [show pre ++ (m % 128 + 128) :: groupsN (m / 128) ++ r = pre ++ [m % 128 + 128] ++ groupsN (m / 128) ++ r from by simp, h2]
      simp only [List.length_cons]
      rw [Nat.add_assoc, hm]
      congr 2
      omega
theorem rest_mod (f k x : Nat) (hx : x < 2 ^ k) : (restN f k + x) % 2 ^ k = x := by
  unfold restN
  rw [Nat.mul_comm, Nat.mul_add_mod, Nat.mod_eq_of_lt hx]
theorem getN_put (f k n : Nat) (hk : K4 k) (hn : n ≤ 268435455) (r : List Nat) : getN (putN f k n ++ r) k = (n, (putN f k n).length, 0) := by
  have hp : 16 ≤ 2 ^ k := by rcases hk with rfl | rfl | rfl | rfl <;> decide
  unfold putN
  by_cases h : n < 2 ^ k - 1
  · rw [if_pos h]
    unfold getN
    simp only [List.cons_append]
    rw [rest_mod f k n (by omega), if_pos h]
    rfl
  · rw [if_neg h]
    unfold getN
    simp only [List.cons_append]
    rw [rest_mod f k (2 ^ k - 1) (by omega), if_neg (by omega)]
    have := getGo_groups r (n - (2 ^ k - 1)) [restN f k + (2 ^ k - 1)] 5 0 (2 ^ k - 1) rfl (Nat.le_trans (groupsN_le 3 _ (by omega)) (by omega)) (by simp; omega)
    simp only [List.cons_append, List.nil_append] at this
    rw [this]
    simp only [List.length_cons, Nat.pow_zero, Nat.mul_one]
    congr 1
    · omega
    · congr 1; omega
theorem textG_long (f n : Nat) (hn : n ≤ 268435455) (h : 4096 < n) : (textG (putN f 7 n)).2.2 = 5 := by
  have hg := getN_put f 7 n (by unfold K4; decide) hn []
  rw [List.append_nil] at hg
  unfold textG
  rw [hg]
  simp only
  rw [if_neg (by simp), if_pos h]
theorem textG_cut (f n : Nat) (h0 : 1 ≤ n) (h : n ≤ 4096) : (textG (putN f 7 n)).2.2 = 3 := by
  have hg := getN_put f 7 n (by unfold K4; decide) (by omega) []
  rw [List.append_nil] at hg
  unfold textG
  rw [hg]
  simp only
  rw [if_neg (by simp), if_neg (by omega), if_pos (by omega)]
end Go.Proofs.Yteceinojmdgmeaa


/- Texts of up to 100 bytes: an item's bytes are got as the item. -/
namespace Go.Proofs.Yteceinojmdgmeaa
open Go.RowKit
set_option linter.unusedVariables false
set_option linter.unusedSimpArgs false

theorem putN_head (f k n : Nat) : ∃ x l, putN f k n = (restN f k + x) :: l ∧ x ≤ 2 ^ k - 1 := by
  unfold putN
  by_cases h : n < 2 ^ k - 1
  · rw [if_pos h]; exact ⟨_, _, rfl, by omega⟩
  · rw [if_neg h]; exact ⟨_, _, rfl, by omega⟩
theorem putN_len6 (f k n : Nat) (hk : K4 k) (hn : n ≤ 268435455) : (putN f k n).length ≤ 6 := by
  unfold putN
  split
  · simp
  · have := groupsN_le 3 (n - (2 ^ k - 1)) (by omega)
    simp only [List.length_cons]
    omega
theorem putN_bytes (f k n : Nat) (hf : f < 256) (hk : K4 k) : ∀ x ∈ putN f k n, x < 256 := by
  intro x hx
  unfold putN at hx
  have hr := fun y hy => (or_rest f k y hf hk hy).2
  split at hx
  · simp at hx; subst hx; exact hr _ (by omega)
  · rcases List.mem_cons.1 hx with rfl | h
    · exact hr _ (Nat.le_refl _)
    · exact groupsN_byte _ x h
theorem kind_head (k : Nat) (hk : k ≤ 4) (x : Nat) (hx : x ≤ 2 ^ formB k - 1) : kindN (restN (formF k) (formB k) + x) = k := by
  have h0 : ∀ x, x ≤ 127 → kindN (restN (formF 0) (formB 0) + x) = 0 := by decide +kernel
  have h1 : ∀ x, x ≤ 63 → kindN (restN (formF 1) (formB 1) + x) = 1 := by decide +kernel
  have h2 : ∀ x, x ≤ 15 → kindN (restN (formF 2) (formB 2) + x) = 2 := by decide +kernel
  have h3 : ∀ x, x ≤ 15 → kindN (restN (formF 3) (formB 3) + x) = 3 := by decide +kernel
  have h4 : ∀ x, x ≤ 31 → kindN (restN (formF 4) (formB 4) + x) = 4 := by decide +kernel
  rcases (show k = 0 ∨ k = 1 ∨ k = 2 ∨ k = 3 ∨ k = 4 from by omega) with rfl | rfl | rfl | rfl | rfl
  · exact h0 x hx
  · exact h1 x hx
  · exact h2 x hx
  · exact h3 x hx
  · exact h4 x hx
theorem bsB_bytes (s : ByteArray) : bsB (bytesU s) = s := by
  unfold bsB bytesU
  rw [List.map_map]
  have : (UInt8.ofNat ∘ UInt8.toNat) = id := by funext x; simp
  rw [this, List.map_id]
theorem sizeL_100 (s : ByteArray) (h : s.size ≤ 100) : sizeL s.data.toList ≤ 500 := by
  have h1 := textBits_len s.data.toList
  have h2 := textBits_le s.data.toList
  have h3 : s.data.toList.length = s.size := by rw [Array.length_toList]; rfl
  unfold sizeL
  omega
theorem textN_cases (s : ByteArray) : (textN s = putN 128 7 (sizeL s.data.toList) ++ encL s.data.toList ∧ (putN 0 7 (sizeL s.data.toList)).length + sizeL s.data.toList < (putN 0 7 s.size).length + s.size) ∨ textN s = putN 0 7 s.size ++ bytesU s := by
  unfold textN
  split
  · rename_i h; exact .inl ⟨rfl, h⟩
  · exact .inr rfl
theorem putN_len_f (f g k n : Nat) : (putN f k n).length = (putN g k n).length := by unfold putN; split <;> simp
theorem put0_100 (n : Nat) (h : n ≤ 100) : putN 0 7 n = [n] := by
  unfold putN
  rw [if_pos (by omega)]
  simp [restN]
theorem textN_len100 (s : ByteArray) (h : s.size ≤ 100) : (textN s).length ≤ 1 + s.size := by
  have hp := put0_100 s.size h
  rcases textN_cases s with ⟨e, hlt⟩ | e
  · rw [e, List.length_append, encL_len, putN_len_f 128 0]
    rw [hp] at hlt
    simp at hlt
    omega
  · rw [e, hp, List.length_append, bytesU_len]
    simp
theorem textN_bytes (s : ByteArray) : ∀ x ∈ textN s, x < 256 := by
  intro x hx
  rcases textN_cases s with ⟨e, _⟩ | e
  · rw [e] at hx
    rcases List.mem_append.1 hx with h | h
    · exact putN_bytes 128 7 _ (by omega) (by unfold K4; decide) x h
    · exact encL_byte _ x h
  · rw [e] at hx
    rcases List.mem_append.1 hx with h | h
    · exact putN_bytes 0 7 _ (by omega) (by unfold K4; decide) x h
    · unfold bytesU at h
      obtain ⟨u, _, rfl⟩ := List.mem_map.1 h
      exact u.toNat_lt
theorem drop_take_mid (a b c : List Nat) : ((a ++ b ++ c).drop a.length).take b.length = b := by
  rw [List.append_assoc, List.drop_left, List.take_left]
/-- A text's bytes, and whatever comes behind, are got as the text. -/
theorem textG_put (s : ByteArray) (h : s.size ≤ 100) (r : List Nat) : textG (textN s ++ r) = (s, (textN s).length, 0) := by
  rcases textN_cases s with ⟨e, _⟩ | e
  · have hz := sizeL_100 s h
    obtain ⟨x, l, he, _⟩ := putN_head 128 7 (sizeL s.data.toList)
    have hg := getN_put 128 7 (sizeL s.data.toList) (by unfold K4; decide) (by omega) (encL s.data.toList ++ r)
    rw [← List.append_assoc] at hg
    have hd := drop_take_mid (putN 128 7 (sizeL s.data.toList)) (encL s.data.toList) r
    rw [encL_len] at hd
    unfold textG
    rw [e, hg]
    simp only
    rw [if_neg (by simp), if_neg (by omega), if_neg (by simp only [List.length_append, encL_len]; omega), if_neg (by rw [he]; simp [restN]), hd, dec_enc]
    simp only [List.length_append, encL_len]
  · have hp := put0_100 s.size h
    have hg := getN_put 0 7 s.size (by unfold K4; decide) (by omega) (bytesU s ++ r)
    rw [← List.append_assoc] at hg
    have hd := drop_take_mid (putN 0 7 s.size) (bytesU s) r
    rw [bytesU_len] at hd
    unfold textG
    rw [e, hg]
    simp only
    rw [if_neg (by simp), if_neg (by omega), if_neg (by simp only [List.length_append, bytesU_len]; omega), if_pos (by rw [hp]; simp; omega), hd, bsB_bytes]
    simp only [List.length_append, bytesU_len]
theorem itemG_eq (bs : List Nat) (h : bs ≠ []) : itemG bs = if (getN bs (formB (kindN (bs.getD 0 0)))).2.2 ≠ 0 then (Itm.zero, 0, (getN bs (formB (kindN (bs.getD 0 0)))).2.2)
    else if kindN (bs.getD 0 0) = 0 ∧ (getN bs (formB (kindN (bs.getD 0 0)))).1 = 0 then (Itm.zero, 0, 4)
    else goParts bs (partsOf (kindN (bs.getD 0 0)) (getN bs (formB (kindN (bs.getD 0 0)))).1) ⟨kindN (bs.getD 0 0), ((getN bs (formB (kindN (bs.getD 0 0)))).1 : Nat), ByteArray.empty, ByteArray.empty⟩ (getN bs (formB (kindN (bs.getD 0 0)))).2.1 := by
  cases bs with
  | nil => exact absurd rfl h
  | cons b l => rfl
theorem empty_of {s : ByteArray} (h : s.toList.isEmpty = true) : s = ByteArray.empty := by
  by_cases he : s = ByteArray.empty
  · exact he
  · have h1 := toList_ne he
    have h2 : s.toList = [] := by simpa using h
    have h3 : ByteArray.empty.toList = [] := by decide +kernel
    rw [h2, h3] at h1
    cases h1
theorem chk_facts {x : Itm} (h : chkI x = 0) : x.kind ≤ 4 ∧ 0 ≤ x.index ∧ x.index ≤ 268435455 ∧ ¬ (x.kind = 0 ∧ x.index = 0) ∧ extraI x = false := by
  unfold chkI at h
  split at h
  · omega
  split at h
  · omega
  split at h
  · omega
  rename_i h1 h2 h3
  refine ⟨by omega, by omega, by omega, by omega, by simpa using h3⟩
/-- An item's bytes, and whatever comes behind, are got as the item. -/
theorem itemG_put (x : Itm) (hc : chkI x = 0) (hn : x.name.size ≤ 100) (hv : x.value.size ≤ 100) (r : List Nat) : itemG (itemN x ++ r) = (x, (itemN x).length, 0) := by
  obtain ⟨hk, hi0, hi1, hk0, hex⟩ := chk_facts hc
  obtain ⟨k, i, nm, vl⟩ := x
  simp only at hk hi0 hi1 hk0 hn hv
  obtain ⟨n, rfl⟩ : ∃ n : Nat, i = n := ⟨i.toNat, by omega⟩
  have hkk := (form_k4 k hk).2
  obtain ⟨y, l, he, hy⟩ := putN_head (formF k) (formB k) n
  have hkh := kind_head k hk y hy
  unfold itemN
  simp only [Int.toNat_natCast]
  generalize hT : (if litK k = true then (if (n : Int) = 0 then textN nm else []) ++ textN vl else []) = T
  have hb : (putN (formF k) (formB k) n ++ T ++ r).getD 0 0 = restN (formF k) (formB k) + y := by rw [he]; rfl
  have hg := getN_put (formF k) (formB k) n hkk (by omega) (T ++ r)
  rw [← List.append_assoc] at hg
  rw [itemG_eq _ (by rw [he]; simp), hb, hkh, hg]
  simp only
  rw [if_neg (by simp), if_neg (fun h => hk0 ⟨h.1, by omega⟩)]
  have hdr : (putN (formF k) (formB k) n ++ T ++ r).drop (putN (formF k) (formB k) n).length = T ++ r := by rw [List.append_assoc, List.drop_left]
  unfold extraI at hex
  simp only at hex
  unfold partsOf
  cases hl : litK k
  · rw [hl] at hex hT
    simp at hex hT
    subst hT
    rw [if_neg (by simp)]
    unfold goParts
    rw [empty_of (s := nm) (by simpa using hex.1), empty_of (s := vl) (by simpa using hex.2)]
    simp
  · rw [hl] at hex hT
    simp only [if_true] at hex hT
    rw [if_pos rfl]
    by_cases hn0 : n = 0
    · subst hn0
      simp only [Int.natCast_zero, if_true] at hT ⊢
      subst hT
      unfold goParts
      rw [hdr, List.append_assoc, textG_put nm hn]
      simp only
      rw [if_neg (by simp)]
      have hdr2 : (putN (formF k) (formB k) 0 ++ (textN nm ++ textN vl) ++ r).drop ((putN (formF k) (formB k) 0).length + (textN nm).length) = textN vl ++ r := by
        rw [show putN (formF k) (formB k) 0 ++ (textN nm ++ textN vl) ++ r = (putN (formF k) (formB k) 0 ++ textN nm) ++ (textN vl ++ r) from by simp, ← List.length_append, List.drop_left]
      unfold goParts
      rw [hdr2, textG_put vl hv]
      simp only
      rw [if_neg (by simp)]
      unfold goParts
      simp [Itm.put]
      omega
    · rw [if_neg (by omega)] at hT
      rw [if_neg hn0]
      simp only [List.nil_append] at hT
      subst hT
      have hnm : nm = ByteArray.empty := empty_of (by
        have : decide ((0 : Int) < (n : Int)) = true := decide_eq_true (by omega)
        rw [this] at hex
        simpa using hex)
      unfold goParts
      rw [hdr, textG_put vl hv]
      simp only
      rw [if_neg (by simp)]
      unfold goParts
      rw [hnm]
      simp [Itm.put]
theorem itemN_pos (x : Itm) : itemN x ≠ [] := by
  unfold itemN
  obtain ⟨y, l, he, _⟩ := putN_head (formF x.kind) (formB x.kind) x.index.toNat
  rw [he]
  simp
theorem itemN_len100 (x : Itm) (hc : chkI x = 0) (hn : x.name.size ≤ 100) (hv : x.value.size ≤ 100) : (itemN x).length ≤ 6 + 1 + x.name.size + 1 + x.value.size := by
  obtain ⟨hk, hi0, hi1, hk0, hex⟩ := chk_facts hc
  have h1 := putN_len6 (formF x.kind) (formB x.kind) x.index.toNat (form_k4 x.kind hk).2 (by omega)
  have h2 := textN_len100 x.name hn
  have h3 := textN_len100 x.value hv
  unfold itemN
  rw [List.length_append]
  split
  · split
    · rw [List.length_append]; omega
    · rw [List.length_append]; simp; omega
  · simp; omega
theorem itemN_bytes (x : Itm) (hc : chkI x = 0) : ∀ y ∈ itemN x, y < 256 := by
  obtain ⟨hk, _⟩ := chk_facts hc
  have hf := form_k4 x.kind hk
  intro y hy
  unfold itemN at hy
  rcases List.mem_append.1 hy with h | h
  · exact putN_bytes _ _ _ hf.1 hf.2 y h
  · split at h
    · rcases List.mem_append.1 h with h | h
      · split at h
        · exact textN_bytes _ y h
        · simp at h
      · exact textN_bytes _ y h
    · simp at h
end Go.Proofs.Yteceinojmdgmeaa

