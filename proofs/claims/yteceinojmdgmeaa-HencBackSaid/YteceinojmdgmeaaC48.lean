/- HnG · HnN: joined by a program, for a claim has at most 60 files. -/
import Derived.Test.YteceinojmdgmeaaC47
import Derived.Test.YteceinojmdgmeaaC18
/- henc.Block: the walk. -/
namespace Go.Proofs.Yteceinojmdgmeaa
open Go.RowKit
set_option linter.unusedVariables false
set_option linter.unusedSimpArgs false

theorem eItem_chk {T : List Fld} {mx : Int} {f : Fld} {p : Nat} {x : Bool} (h : DFound T f.name f.value p x) (ht : T.length ≤ 1000) (hl : longF f = false) : chkI (eItem p x mx f) = 0 := by
  have hl2 : f.name.size ≤ 4096 ∧ f.value.size ≤ 4096 := by simpa [longF] using hl
  have hp : p ≤ 61 + T.length ∧ (x = true → p ≠ 0) := by
    rcases h with ⟨_, k, h1, h2, _⟩ | ⟨h0, _, h1⟩
    · exact ⟨by omega, fun _ => by omega⟩
    · exact ⟨h1.le, fun e => by rw [h0] at e; cases e⟩
  have he : (⟨#[]⟩ : ByteArray).toList.isEmpty = true := by decide +kernel
  have hs : (⟨#[]⟩ : ByteArray).size = 0 := rfl
  unfold eItem
  by_cases c : (x && !f.never) = true
  · rw [if_pos c]
    have hx : x = true := by simp at c; exact c.1
    have := hp.2 hx
    unfold chkI extraI
    simp only [he, hs]
    rw [if_neg (by omega), if_neg (by intro h; rcases h with h | h | h; omega; omega; exact this (by have := h.2; omega)), if_neg (by rw [if_neg (by decide)]; simp), if_neg (by omega)]
  · rw [if_neg c]
    have hk : ∀ k : Nat, k = 3 ∨ k = 1 ∨ k = 2 → chkI ⟨k, p, if p = 0 then f.name else ⟨#[]⟩, f.value⟩ = 0 := fun k hk => by
      have hlit : litK k = true := by rcases hk with rfl | rfl | rfl <;> decide
      unfold chkI extraI
      dsimp only
      rw [if_neg (by omega), if_neg (by intro h; rcases h with h | h | h; omega; omega; omega), if_pos hlit]
      by_cases e : p = 0
      · rw [if_pos e, if_neg (by simp [e]), if_neg (by omega)]
      · rw [if_neg e, he, if_neg (by simp), if_neg (by rw [hs]; omega)]
    split
    · exact hk 3 (.inl rfl)
    · split
      · exact hk 1 (.inr (.inl rfl))
      · exact hk 2 (.inr (.inr rfl))
theorem ERun.chk {mx : Int} : ∀ {l T T2 : List Fld} {O : List Itm}, ERun mx T l T2 O → chkN mx T = 0 → l.any longF = false → ∀ x ∈ O, chkI x = 0
  | [], T, T2, O, h, _, _, x, hx => by
    obtain ⟨rfl, rfl⟩ := h
    cases hx
  | f :: l, T, T2, O, h, hc, hl, x, hx => by
    obtain ⟨p, b, O2, h1, rfl, h2⟩ := h
    have hl2 : longF f = false ∧ l.any longF = false := by simpa using hl
    have hcl := (chk_light hc).1
    rcases List.mem_cons.1 hx with rfl | hx
    · exact eItem_chk h1 (by omega) hl2.1
    · refine ERun.chk h2 ?_ hl2.2 x hx
      split
      · exact addL_chk f hc
      · exact hc
theorem ERun.len {mx : Int} : ∀ {l T T2 : List Fld} {O : List Itm}, ERun mx T l T2 O → O.length = l.length
  | [], T, T2, O, h => by obtain ⟨rfl, rfl⟩ := h; rfl
  | f :: l, T, T2, O, h => by
    obtain ⟨p, b, O2, _, rfl, h2⟩ := h
    simp [h2.len]
theorem rzO_chk {mx most : Int} {O : List Itm} (h : ∀ x ∈ O, chkI x = 0) (h0 : 0 ≤ most) (h4 : most ≤ 4096) : ∀ x ∈ rzO mx most O, chkI x = 0 := fun x hx => by
  unfold rzO at hx
  split at hx
  · rcases List.mem_append.1 hx with hx | hx
    · exact h x hx
    · obtain rfl := List.mem_singleton.1 hx
      have he : (⟨#[]⟩ : ByteArray).toList.isEmpty = true := by decide +kernel
      have hs : (⟨#[]⟩ : ByteArray).size = 0 := rfl
      unfold chkI extraI
      simp only [he, hs]
      rw [if_neg (by omega), if_neg (by intro h; rcases h with h | h | h; omega; omega; exact absurd h.1 (by decide)), if_neg (by rw [if_neg (by decide)]; simp), if_neg (by omega)]
  · exact h x hx
theorem itemN_wide (x : Itm) (h : chkI x = 0) : (itemN x).length ≤ 12000000 := by
  obtain ⟨h1, h2, h3, h4, h5⟩ := chk_ok h
  have p1 := (putN_len (formF x.kind) (formB x.kind) x.index.toNat (by omega)).2
  have p2 := (textN_len x.name h4).2
  have p3 := (textN_len x.value h5).2
  unfold itemN
  rw [List.length_append]
  split
  · split
    · rw [List.length_append]; omega
    · rw [List.length_append]; simp; omega
  · simp; omega
theorem catI_wide (l : List Itm) (h : ∀ x ∈ l, chkI x = 0) : (catI l).length ≤ 12000000 * l.length := by
  induction l with
  | nil => simp [catI]
  | cons x l ih =>
    have h1 := itemN_wide x (h x (by simp))
    have h2 := ih (fun y hy => h y (by simp [hy]))
    rw [catI_cons, List.length_append, List.length_cons]
    omega
def EBlkPost (mx le la : Int) (oa : Option Addr) (n cap : Nat) (T l : List Fld) (w : World) (e : Ending) (w' : World) : Prop :=
  (echk mx le la T ≠ 0 ∧ e = .returned (.tuple #[.agg #[.int .i64 mx, .slice oa n cap, .int .i64 le, .int .i64 la], .slice none 0 0, .int .i64 (echk mx le la T)]) ∧ Below w.heap.size w w') ∨
  (echk mx le la T = 0 ∧ l.any longF = true ∧ e = .returned (.tuple #[.agg #[.int .i64 mx, .slice oa n cap, .int .i64 le, .int .i64 la], .slice none 0 0, .int .i64 5]) ∧ Below w.heap.size w w') ∨
  (echk mx le la T = 0 ∧ l.any longF = false ∧ ∃ T2 O1, ERun la (rzL le la (rzL mx le T)) l T2 O1 ∧ chkN la T2 = 0 ∧
    ((4096 < (catI (rzO le la (rzO mx le []) ++ O1)).length ∧ e = .returned (.tuple #[.agg #[.int .i64 mx, .slice oa n cap, .int .i64 le, .int .i64 la], .slice none 0 0, .int .i64 5]) ∧ Below w.heap.size w w') ∨
     ((catI (rzO le la (rzO mx le []) ++ O1)).length ≤ 4096 ∧ ∃ o2 n2 c2 bv, e = .returned (.tuple #[.agg #[.int .i64 la, .slice o2 n2 c2, .int .i64 la, .int .i64 la], bv, .int .i64 0]) ∧
       OwnB w' w.heap.size bv (catI (rzO le la (rzO mx le []) ++ O1)) ∧ FieldsN w' o2 T2 ∧ T2.length = n2 ∧ n2 ≤ c2 ∧ Below w.heap.size w w')))
end Go.Proofs.Yteceinojmdgmeaa


/- Items of texts of up to 200 bytes: items from all their bytes. -/
namespace Go.Proofs.Yteceinojmdgmeaa
open Go.RowKit
set_option linter.unusedVariables false
set_option linter.unusedSimpArgs false

theorem sizeL_200 (s : ByteArray) (h : s.size ≤ 200) : sizeL s.data.toList ≤ 1000 := by
  have h1 := textBits_len s.data.toList
  have h2 := textBits_le s.data.toList
  have h3 : s.data.toList.length = s.size := by rw [Array.length_toList]; rfl
  unfold sizeL
  omega
theorem put0_len200 (n : Nat) (h : n ≤ 200) : (putN 0 7 n).length ≤ 2 := by
  unfold putN
  split
  · simp
  · have := groupsN_le 0 (n - (2 ^ 7 - 1)) (by omega)
    simp only [List.length_cons]
    omega
theorem textN_len200 (s : ByteArray) (h : s.size ≤ 200) : (textN s).length ≤ 2 + s.size := by
  have hp := put0_len200 s.size h
  rcases textN_cases s with ⟨e, hlt⟩ | e
  · rw [e, List.length_append, encL_len, putN_len_f 128 0]
    omega
  · rw [e, List.length_append, bytesU_len]
    omega
/-- A text's bytes, and whatever comes behind, are got as the text. -/
theorem textG_put2 (s : ByteArray) (h : s.size ≤ 200) (r : List Nat) : textG (textN s ++ r) = (s, (textN s).length, 0) := by
  rcases textN_cases s with ⟨e, _⟩ | e
  · have hz := sizeL_200 s h
    obtain ⟨x, l, he, _⟩ := putN_head 128 7 (sizeL s.data.toList)
    have hg := getN_put 128 7 (sizeL s.data.toList) (by unfold K4; decide) (by omega) (encL s.data.toList ++ r)
    rw [← List.append_assoc] at hg
    have hd := drop_take_mid (putN 128 7 (sizeL s.data.toList)) (encL s.data.toList) r
    rw [encL_len] at hd
    unfold textG
    rw [e, hg]
    simp only
    rw [if_neg (by simp), if_neg (by omega), if_neg (by simp only [List.length_append, encL_len]; omega), if_neg (by rw [he]; simp [restN]), hd, dec_enc]
    simp only [List.length_append, encL_len]
  · have hlow : (putN 0 7 s.size ++ bytesU s ++ r).getD 0 0 < 128 := by
      obtain ⟨y7, l7, hp, hy7⟩ := putN_head 0 7 s.size
      have h7 : restN 0 7 = 0 := by decide
      rw [hp, h7]
      simp
      omega
    have hg := getN_put 0 7 s.size (by unfold K4; decide) (by omega) (bytesU s ++ r)
    rw [← List.append_assoc] at hg
    have hd := drop_take_mid (putN 0 7 s.size) (bytesU s) r
    rw [bytesU_len] at hd
    unfold textG
    rw [e, hg]
    simp only
    rw [if_neg (by simp), if_neg (by omega), if_neg (by simp only [List.length_append, bytesU_len]; omega), if_pos hlow, hd, bsB_bytes]
    simp only [List.length_append, bytesU_len]
/-- An item's bytes, and whatever comes behind, are got as the item. -/
theorem itemG_put2 (x : Itm) (hc : chkI x = 0) (hn : x.name.size ≤ 200) (hv : x.value.size ≤ 200) (r : List Nat) : itemG (itemN x ++ r) = (x, (itemN x).length, 0) := by
  obtain ⟨hk, hi0, hi1, hk0, hex⟩ := chk_facts hc
  obtain ⟨k, i, nm, vl⟩ := x
  simp only at hk hi0 hi1 hk0 hn hv
  obtain ⟨n, rfl⟩ : ∃ n : Nat, i = n := ⟨i.toNat, by omega⟩
  have hkk := (form_k4 k hk).2
  obtain ⟨y, l, he, hy⟩ := putN_head (formF k) (formB k) n
  have hkh := kind_head k hk y hy
  unfold itemN
  simp only [Int.toNat_natCast]
  generalize hT : (if litK k = true then (if (n : Int) = 0 then textN nm else []) ++ textN vl else []) = T
  have hb : (putN (formF k) (formB k) n ++ T ++ r).getD 0 0 = restN (formF k) (formB k) + y := by rw [he]; rfl
  have hg := getN_put (formF k) (formB k) n hkk (by omega) (T ++ r)
  rw [← List.append_assoc] at hg
  rw [itemG_eq _ (by rw [he]; simp), hb, hkh, hg]
  simp only
  rw [if_neg (by simp), if_neg (fun h => hk0 ⟨h.1, by omega⟩)]
  have hdr : (putN (formF k) (formB k) n ++ T ++ r).drop (putN (formF k) (formB k) n).length = T ++ r := by rw [List.append_assoc, List.drop_left]
  unfold extraI at hex
  simp only at hex
  unfold partsOf
  cases hl : litK k
  · rw [hl] at hex hT
    simp at hex hT
    subst hT
    rw [if_neg (by simp)]
    unfold goParts
    rw [empty_of (s := nm) (by simpa using hex.1), empty_of (s := vl) (by simpa using hex.2)]
    simp
  · rw [hl] at hex hT
    simp only [if_true] at hex hT
    rw [if_pos rfl]
    by_cases hn0 : n = 0
    · subst hn0
      simp only [Int.natCast_zero, if_true] at hT ⊢
      subst hT
      unfold goParts
      rw [hdr, List.append_assoc, textG_put2 nm hn]
      simp only
      rw [if_neg (by simp)]
      have hdr2 : (putN (formF k) (formB k) 0 ++ (textN nm ++ textN vl) ++ r).drop ((putN (formF k) (formB k) 0).length + (textN nm).length) = textN vl ++ r := by
        rw [show putN (formF k) (formB k) 0 ++ (textN nm ++ textN vl) ++ r = (putN (formF k) (formB k) 0 ++ textN nm) ++ (textN vl ++ r) from by simp, ← List.length_append, List.drop_left]
      unfold goParts
      rw [hdr2, textG_put2 vl hv]
      simp only
      rw [if_neg (by simp)]
      unfold goParts
      simp [Itm.put]
      omega
    · rw [if_neg (by omega)] at hT
      rw [if_neg hn0]
      simp only [List.nil_append] at hT
      subst hT
      have hnm : nm = ByteArray.empty := empty_of (by
        have : decide ((0 : Int) < (n : Int)) = true := decide_eq_true (by omega)
        rw [this] at hex
        simpa using hex)
      unfold goParts
      rw [hdr, textG_put2 vl hv]
      simp only
      rw [if_neg (by simp)]
      unfold goParts
      rw [hnm]
      simp [Itm.put]
theorem itemN_len200 (x : Itm) (hc : chkI x = 0) (hn : x.name.size ≤ 200) (hv : x.value.size ≤ 200) : (itemN x).length ≤ 6 + 2 + x.name.size + 2 + x.value.size := by
  obtain ⟨hk, hi0, hi1, hk0, hex⟩ := chk_facts hc
  have h1 := putN_len6 (formF x.kind) (formB x.kind) x.index.toNat (form_k4 x.kind hk).2 (by omega)
  have h2 := textN_len200 x.name hn
  have h3 := textN_len200 x.value hv
  unfold itemN
  rw [List.length_append]
  split
  · split
    · rw [List.length_append]; omega
    · rw [List.length_append]; simp; omega
  · simp; omega
/-- Items that may be, with texts of up to 200 bytes. -/
def OkJ (x : Itm) : Prop := chkI x = 0 ∧ x.name.size ≤ 200 ∧ x.value.size ≤ 200
theorem allA_cat2 : ∀ (l : List Itm) (f : Nat) (L : List Itm) (r : List Nat), (∀ x ∈ l, OkJ x) → allA (f + l.length) L (catI l ++ r) = allA f (L ++ l) r
  | [], f, L, r, _ => by simp [catI]
  | x :: l, f, L, r, h => by
    have hx := h x (by simp)
    have hp := itemG_put2 x hx.1 hx.2.1 hx.2.2 (catI l ++ r)
    rw [catI_cons, List.append_assoc, List.length_cons, ← Nat.add_assoc, allA_step _ _ _ (by simp [itemN_pos]), hp]
    simp only
    rw [if_neg (by simp), List.drop_left, allA_cat2 l f (L ++ [x]) r (fun y hy => h y (by simp [hy]))]
    simp
theorem allG_cat2 (l : List Itm) (h : ∀ x ∈ l, OkJ x) : allG (catI l) = (l, 0) := by
  have hl := catI_len l
  unfold allG
  obtain ⟨f, hf⟩ : ∃ f, (catI l).length = f + l.length := ⟨(catI l).length - l.length, by omega⟩
  have := allA_cat2 l f [] [] h
  rw [List.append_nil] at this
  rw [hf, this, allA_nil]
  simp
theorem catI_bytes2 (l : List Itm) (h : ∀ x ∈ l, OkJ x) : ∀ y ∈ catI l, y < 256 := by
  intro y hy
  obtain ⟨x, hx, hy⟩ := List.mem_flatMap.1 hy
  exact itemN_bytes x (h x hx).1 y hy
end Go.Proofs.Yteceinojmdgmeaa

