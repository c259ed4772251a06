/- A line's words, and texts of lines, parsed: in plain Lean. -/
import Derived.Test.YtdflkikhmngfiaaDoorD41
import Derived.Test.YtdflkikhmngfiaaDoorD30
namespace Go.Proofs.YtdflkikhmngfiaaDoor
open Go.RowKit
set_option linter.unusedVariables false
set_option linter.unusedSimpArgs false
set_option linter.unusedSectionVars false
set_option maxRecDepth 10000

theorem digit_val (d : Nat) (h : d < 10) : (UInt8.ofNat (48 + d)).toNat = 48 + d := by simp; omega
theorem dec_val : ∀ n : Nat, numVal (Lib.decDigits n) = n := by
  intro n
  induction n using Nat.strongRecOn with
  | _ n ih =>
    rw [Lib.decDigits]
    split
    · rename_i h
      show 0 * 10 + ((UInt8.ofNat (48 + n)).toNat - 48) = n
      rw [digit_val n h]
      omega
    · rename_i h
      rw [numVal_snoc, ih (n / 10) (by omega), digit_val _ (Nat.mod_lt _ (by omega))]
      omega
theorem dec_dig : ∀ n : Nat, (Lib.decDigits n).all digB = true := by
  intro n
  induction n using Nat.strongRecOn with
  | _ n ih =>
    rw [Lib.decDigits]
    split
    · rename_i h
      simp only [List.all_cons, List.all_nil, Bool.and_true, digB, digit_val n h]
      exact decide_eq_true (by omega)
    · rename_i h
      have hm := Nat.mod_lt n (show 0 < 10 by omega)
      rw [List.all_append, ih (n / 10) (by omega)]
      simp only [List.all_cons, List.all_nil, Bool.and_true, Bool.true_and, digB, digit_val _ hm]
      exact decide_eq_true (by omega)
theorem dec_head : ∀ n : Nat, 1 ≤ n → (Lib.decDigits n).head? ≠ some 48 := by
  intro n
  induction n using Nat.strongRecOn with
  | _ n ih =>
    intro h1
    rw [Lib.decDigits]
    split
    · rename_i h
      intro e
      simp only [List.head?_cons, Option.some.injEq] at e
      have := congrArg UInt8.toNat e
      rw [digit_val n h] at this
      simp at this
      omega
    · rename_i h
      have hne : Lib.decDigits (n / 10) ≠ [] := by rw [Lib.decDigits]; split <;> simp
      have := ih (n / 10) (by omega) (by omega)
      cases hd : Lib.decDigits (n / 10) with
      | nil => exact absurd hd hne
      | cons c l => rw [hd] at this; simpa using this
theorem dec_ne (n : Nat) : Lib.decDigits n ≠ [] := by rw [Lib.decDigits]; split <;> simp
theorem dec_len (n : Nat) (h : n ≤ 999999999) : (Lib.decDigits n).length ≤ 9 := by
  rw [Lib.decDigits_length]
  exact nDigits_le 8 n (by omega)
theorem dec_ok (n : Nat) (h : n ≤ 999999999) : numOk (decS n).data.toList = true := by
  rw [show (decS n).data.toList = Lib.decDigits n from rfl, numOk_eq]
  refine ⟨dec_ne n, dec_len n h, ?_, dec_dig n⟩
  rintro ⟨h1, h2⟩
  by_cases h0 : n < 10
  · rw [Lib.decDigits, dif_pos h0] at h1
    simp at h1
  · exact dec_head n (by omega) h2
theorem dec_num (n : Nat) (h : n ≤ 999999999) : numI (decS n).data.toList = n := by
  rw [numI_yes (dec_ok n h), show (decS n).data.toList = Lib.decDigits n from rfl, dec_val]

theorem dec_all {n : Nat} {x : UInt8} (h : x ∈ Lib.decDigits n) : x ≠ 32 ∧ x ≠ 35 ∧ x ≠ 10 := by
  have h1 := List.all_eq_true.1 (dec_dig n) x h
  have h2 : 48 ≤ x.toNat ∧ x.toNat ≤ 57 := by simpa [digB] using h1
  refine ⟨?_, ?_, ?_⟩ <;> (rintro rfl; exact absurd h2 (by decide))
/-- Words. -/
theorem wds_LL (s : ByteArray) : (wordsB s).map LL = wdL (cutL 35 (LL s)).1 := by
  unfold wordsB wdL
  have h := parts_LL (strL (cutL 35 (LL s)).1) 32
  rw [LL_strL] at h
  rw [← h, List.filter_map]
  congr 1
  apply List.filter_congr
  intro x _
  show decide (x ≠ ⟨#[]⟩) = !(LL x).isEmpty
  by_cases hx : x = ⟨#[]⟩
  · rw [hx]; rfl
  · rw [decide_eq_true hx]
    cases hl : LL x with
    | nil => exact absurd (by rw [← strL_LL x, hl]; rfl) hx
    | cons _ _ => rfl
theorem wordsB_of {s : ByteArray} {l : List (List UInt8)} (h : wdL (cutL 35 (LL s)).1 = l) : wordsB s = l.map strL := by
  rw [← h, ← wds_LL, List.map_map]
  have : (wordsB s).map (strL ∘ LL) = (wordsB s).map id := List.map_congr_left fun x _ => strL_LL x
  rw [this, List.map_id]
theorem wdA_blank (l : List UInt8) : wdA [] (32 :: l) = wdA [] l := by simp [wdA]
theorem wdA_blanks (l : List UInt8) : ∀ a, wdA [] (List.replicate a 32 ++ l) = wdA [] l
  | 0 => rfl
  | a + 1 => by rw [List.replicate_succ, List.cons_append, wdA_blank, wdA_blanks l a]
theorem wdA_word : ∀ (x : List UInt8) (w l : List UInt8), (32 : UInt8) ∉ x → wdA w (x ++ l) = wdA (w ++ x) l
  | [], w, l, _ => by simp
  | b :: x, w, l, h => by
    have hb : b ≠ 32 := fun e => h (by simp [e])
    show (if b = 32 then _ else wdA (w ++ [b]) (x ++ l)) = _
    rw [if_neg hb, wdA_word x _ l (fun h' => h (by simp [h'])), List.append_assoc]
    rfl
theorem wdA_sep {w : List UInt8} (h : w ≠ []) (l : List UInt8) : wdA w (32 :: l) = w :: wdA [] l := by
  cases w with
  | nil => exact absurd rfl h
  | cons _ _ => simp [wdA]
theorem wdA_end {w : List UInt8} (h : w ≠ []) : ∀ c, wdA w (List.replicate c 32) = [w]
  | 0 => by
    cases w with
    | nil => exact absurd rfl h
    | cons _ _ => simp [wdA]
  | c + 1 => by
    rw [List.replicate_succ, wdA_sep h]
    have := wdA_blanks [] c
    rw [List.append_nil] at this
    rw [this]
    rfl
/-- Two words, with blanks. -/
theorem two_words (a b c : Nat) {k d : List UInt8} (hk : (32 : UInt8) ∉ k) (hk0 : k ≠ []) (hd : (32 : UInt8) ∉ d) (hd0 : d ≠ []) :
    wdL (List.replicate a 32 ++ (k ++ (32 :: List.replicate b 32 ++ (d ++ List.replicate c 32)))) = [k, d] := by
  rw [← wdA_wdL, wdA_blanks, wdA_word k [] _ hk, List.nil_append, List.cons_append, wdA_sep hk0, wdA_blanks, wdA_word d [] _ hd, List.nil_append, wdA_end hd0]
def kB (i : Nat) : ByteArray := bytesOf (keyAt i)
def kL (i : Nat) : List UInt8 := LL (kB i)
theorem kL_ok : ∀ i, i < 15 → ((32 : UInt8) ∉ kL i ∧ kL i ≠ []) ∧ ((35 : UInt8) ∉ kL i ∧ (10 : UInt8) ∉ kL i) := fun i hi => by
  have h : (List.range 15).all (fun i => (!(kL i).contains 32 && !(kL i).isEmpty) && (!(kL i).contains 35 && !(kL i).contains 10)) = true := by kernel_rfl
  have h := List.all_eq_true.1 h i (List.mem_range.2 hi)
  simpa using h
theorem kB_inj {i j : Nat} (hi : i < 15) (hj : j < 15) (h : kB i = kB j) : i = j := by
  have hh : (List.range 15).all (fun i => (List.range 15).all fun j => decide (i = j) || !decide (kB i = kB j)) = true := by kernel_rfl
  have hh := List.all_eq_true.1 (List.all_eq_true.1 hh i (List.mem_range.2 hi)) j (List.mem_range.2 hj)
  simpa [h] using hh
theorem keyIx_at (i : Nat) (hi : i < 15) : keyIx (kB i) = some i := by
  have hh : (List.range 15).all (fun i => keyIx (kB i) == some i) = true := by kernel_rfl
  simpa using List.all_eq_true.1 hh i (List.mem_range.2 hi)
theorem line_words {s : ByteArray} {i n : Nat} (hw : wdL (cutL 35 (LL s)).1 = [kL i, Lib.decDigits n]) : wordsB s = [kB i, decS n] := by
  rw [wordsB_of hw]
  show [strL (LL (kB i)), decS n] = _
  rw [strL_LL]
/-- A right line sets. -/
theorem lineF_set (c : Nat → PV) {L : List ByteArray} {s : ByteArray} {i n : Nat} (hs : s.size ≤ 200) (hi : i < 15) (hn : n ≤ 999999999) (hw : wdL (cutL 35 (LL s)).1 = [kL i, Lib.decDigits n]) (hL : inL (kB i) L = false) :
    lineF c L s = (0, (fun j => if j = i then .int n else c j), L ++ [kB i]) := by
  unfold lineF
  rw [if_neg (by omega), line_words hw]
  show (match keyIx (kB i) with | none => _ | some i' => _) = _
  rw [keyIx_at i hi]
  show (if inL (kB i) L = true then _ else _) = _
  rw [hL, if_neg (by decide), if_pos (show numOk (LL (decS n)) = true from dec_ok n hn), show numI (LL (decS n)) = n from dec_num n hn]
theorem lineF_there (c : Nat → PV) {L : List ByteArray} {s : ByteArray} {i n : Nat} (hs : s.size ≤ 200) (hi : i < 15) (hw : wdL (cutL 35 (LL s)).1 = [kL i, Lib.decDigits n]) (hL : inL (kB i) L = true) :
    lineF c L s = (12, c, L) := by
  unfold lineF
  rw [if_neg (by omega), line_words hw]
  show (match keyIx (kB i) with | none => _ | some i' => _) = _
  rw [keyIx_at i hi]
  show (if inL (kB i) L = true then _ else _) = _
  rw [if_pos hL]
theorem linesN_line {f n : Nat} {x r : List UInt8} (hx : (10 : UInt8) ∉ x) (hf : (x ++ 10 :: r).length ≤ f) : ∃ g, r.length ≤ g ∧ linesN f n (x ++ 10 :: r) = (n, strL x) :: linesN g (n + 1) r := by
  obtain ⟨g, _, h2, h3⟩ := linesN_cons (f := f) (n := n) (t := x ++ 10 :: r) (by simp) hf
  rw [cutL_app 10 r x hx] at h2 h3
  exact ⟨g, h2, h3⟩
theorem linesN_last {f n : Nat} {x : List UInt8} (hx : (10 : UInt8) ∉ x) (h0 : x ≠ []) (hf : x.length ≤ f) : linesN f n x = [(n, strL x)] := by
  obtain ⟨g, _, h2, h3⟩ := linesN_cons (f := f) (n := n) (t := x) h0 hf
  rw [cutL_none 10 x hx] at h2 h3
  rw [h3, linesN_nil]
theorem inL_snoc {k x : ByteArray} {L : List ByteArray} : inL k (L ++ [x]) = (inL k L || decide (x = k)) := by
  unfold inL
  rw [List.any_append]
  simp
theorem rowC_cl (c : Nat → PV) (j : Nat) (hj : j < 15) : (rowC c).cl j = c j := by
  show ((List.range 15).map c).getD j default = c j
  rw [List.getD_eq_getElem?_getD, List.getElem?_map, List.getElem?_range hj]
  rfl
theorem rowC_congr {c d : Nat → PV} (h : ∀ j, j < 15 → c j = d j) : rowC c = rowC d := by
  unfold rowC
  congr 1
  exact List.map_congr_left fun j hj => h j (List.mem_range.1 hj)
theorem usC_ut : ∀ j, j < 15 → usC j = .int (ut j) := all15 rfl rfl rfl rfl rfl rfl rfl rfl rfl rfl rfl rfl rfl rfl rfl
theorem LL_lnB (i : Nat) (n : Int) : LL (lnB i n) = (kL i ++ 32 :: Lib.decDigits n.toNat) ++ [10] := by
  unfold lnB
  rw [LL_app, LL_app, LL_app]
  show kL i ++ ([32] ++ (Lib.decDigits n.toNat ++ [10])) = _
  simp
theorem ln_size {i : Nat} (hi : i < 15) {n : Nat} (hn : n ≤ 999999999) : (kL i).length ≤ 7 ∧ (Lib.decDigits n).length ≤ 9 := by
  have := key_size i hi
  exact ⟨by unfold kL kB; rw [LL_len]; exact this, dec_len n hn⟩
theorem cut_line {i n : Nat} (hi : i < 15) (a b c : Nat) (t : List UInt8) : (cutL 35 (List.replicate a 32 ++ (kL i ++ (32 :: List.replicate b 32 ++ (Lib.decDigits n ++ List.replicate c 32))) ++ 35 :: t)).1 = List.replicate a 32 ++ (kL i ++ (32 :: List.replicate b 32 ++ (Lib.decDigits n ++ List.replicate c 32))) ∧
    (cutL 35 (List.replicate a 32 ++ (kL i ++ (32 :: List.replicate b 32 ++ (Lib.decDigits n ++ List.replicate c 32))))).1 = List.replicate a 32 ++ (kL i ++ (32 :: List.replicate b 32 ++ (Lib.decDigits n ++ List.replicate c 32))) := by
  have h : (35 : UInt8) ∉ List.replicate a 32 ++ (kL i ++ (32 :: List.replicate b 32 ++ (Lib.decDigits n ++ List.replicate c 32))) := by
    have h1 := (kL_ok i hi).2.1
    have h2 : (35 : UInt8) ∉ Lib.decDigits n := fun h => (dec_all h).2.1 rfl
    intro hm
    rcases List.mem_append.1 hm with h | h
    · exact absurd (List.eq_of_mem_replicate h) (by decide)
    · rcases List.mem_append.1 h with h | h
      · exact h1 h
      · rcases List.mem_append.1 h with h | h
        · rcases List.mem_cons.1 h with h | h
          · exact absurd h (by decide)
          · exact absurd (List.eq_of_mem_replicate h) (by decide)
        · rcases List.mem_append.1 h with h | h
          · exact h2 h
          · exact absurd (List.eq_of_mem_replicate h) (by decide)
  exact ⟨by rw [cutL_app 35 t _ h], by rw [cutL_none 35 _ h]⟩
theorem line_wd {i n : Nat} (hi : i < 15) (a b c : Nat) (t : List UInt8) : wdL (cutL 35 (List.replicate a 32 ++ (kL i ++ (32 :: List.replicate b 32 ++ (Lib.decDigits n ++ List.replicate c 32))) ++ 35 :: t)).1 = [kL i, Lib.decDigits n] ∧
    wdL (cutL 35 (List.replicate a 32 ++ (kL i ++ (32 :: List.replicate b 32 ++ (Lib.decDigits n ++ List.replicate c 32))))).1 = [kL i, Lib.decDigits n] := by
  obtain ⟨h1, h2⟩ := cut_line (n := n) hi a b c t
  rw [h1, h2]
  have h3 : (32 : UInt8) ∉ Lib.decDigits n := fun h => (dec_all h).1 rfl
  exact ⟨two_words a b c (kL_ok i hi).1.1 (kL_ok i hi).1.2 h3 (dec_ne n), two_words a b c (kL_ok i hi).1.1 (kL_ok i hi).1.2 h3 (dec_ne n)⟩
theorem line_no10 {i n : Nat} (hi : i < 15) (b : Nat) : (10 : UInt8) ∉ kL i ++ (32 :: List.replicate b 32 ++ Lib.decDigits n) := by
  have h1 := (kL_ok i hi).2.2
  have h2 : (10 : UInt8) ∉ Lib.decDigits n := fun h => (dec_all h).2.2 rfl
  intro hm
  rcases List.mem_append.1 hm with h | h
  · exact h1 h
  · rcases List.mem_append.1 h with h | h
    · rcases List.mem_cons.1 h with h | h
      · exact absurd h (by decide)
      · exact absurd (List.eq_of_mem_replicate h) (by decide)
    · exact h2 h
/-- A print's lines, one behind the other. -/
theorem goF_print (ns : Nat → Int) (h : ∀ j, j < 15 → 0 ≤ ns j ∧ ns j ≤ 999999999) : ∀ i, i ≤ 15 → ∀ (f n : Nat) (rest : List UInt8), (LL (prTo (rowC fun j => .int (ns j)) i) ++ rest).length ≤ f →
    ∃ (f' n' : Nat) (L' : List ByteArray), rest.length ≤ f' ∧ (∀ j, i ≤ j → j < 15 → inL (kB j) L' = false) ∧
      goF (linesN f n (LL (prTo (rowC fun j => .int (ns j)) i) ++ rest)) usC [] = goF (linesN f' n' rest) (fun j => if j < i then .int (ns j) else usC j) L' := by
  intro i
  induction i with
  | zero =>
    intro _ f n rest hf
    refine ⟨f, n, [], hf, fun _ _ _ => rfl, ?_⟩
    rfl
  | succ i ih =>
    intro hi f n rest hf
    have hci : (rowC fun j => .int (ns j)).cl i = .int (ns i) := rowC_cl _ i (by omega)
    have hsplit : prTo (rowC fun j => .int (ns j)) (i + 1) = if ((rowC fun j => PV.int (ns j)).cl i).i = ut i ∨ ((rowC fun j => PV.int (ns j)).cl i).i < 0 then prTo (rowC fun j => .int (ns j)) i else prTo (rowC fun j => .int (ns j)) i ++ lnB i ((rowC fun j => PV.int (ns j)).cl i).i := rfl
    have hni : ((rowC fun j => PV.int (ns j)).cl i).i = ns i := by rw [hci]; rfl
    rw [hni] at hsplit
    rw [hsplit] at hf ⊢
    by_cases he : ns i = ut i ∨ ns i < 0
    · rw [if_pos he] at hf ⊢
      obtain ⟨f', n', L', h1, h2, h3⟩ := ih (by omega) f n rest hf
      refine ⟨f', n', L', h1, fun j hj => h2 j (by omega), ?_⟩
      rw [h3]
      congr 1
      funext j
      by_cases hj : j = i
      · subst hj
        rw [if_neg (Nat.lt_irrefl _), if_pos (Nat.lt_succ_self _), usC_ut j (by omega)]
        rcases he with he | he
        · rw [he]
        · have := (h j (by omega)).1; omega
      · by_cases hj2 : j < i
        · rw [if_pos hj2, if_pos (by omega)]
        · rw [if_neg hj2, if_neg (by omega)]
    · rw [if_neg he] at hf ⊢
      rw [LL_app, List.append_assoc] at hf ⊢
      obtain ⟨f', n', L', h1, h2, h3⟩ := ih (by omega) f n _ hf
      obtain ⟨hlo, hhi⟩ := h i (by omega)
      rw [h3]
      clear h3
      rw [LL_lnB, List.append_assoc] at h1 ⊢
      have hx : kL i ++ 32 :: Lib.decDigits (ns i).toNat = kL i ++ (32 :: List.replicate 0 32 ++ Lib.decDigits (ns i).toNat) := rfl
      obtain ⟨g, hg1, hg2⟩ := linesN_line (f := f') (n := n') (x := kL i ++ 32 :: Lib.decDigits (ns i).toNat) (r := rest) (by rw [hx]; exact line_no10 (by omega) 0) h1
      refine ⟨g, n' + 1, L' ++ [kB i], hg1, fun j hj hj2 => ?_, ?_⟩
      · rw [inL_snoc, h2 j (by omega) hj2, Bool.false_or]
        exact decide_eq_false fun e => by have := kB_inj (by omega) hj2 e; omega
      · rw [show ([10] ++ rest : List UInt8) = 10 :: rest from rfl, hg2]
        obtain ⟨s1, s2⟩ := ln_size (i := i) (by omega) (n := (ns i).toNat) (by omega)
        have hset := lineF_set (fun j => if j < i then .int (ns j) else usC j) (L := L') (s := strL (kL i ++ 32 :: Lib.decDigits (ns i).toNat)) (i := i) (n := (ns i).toNat)
          (by rw [strL_sz]; simp only [List.length_append, List.length_cons]; omega) (by omega) (by omega)
          (by
            rw [LL_strL]
            have := (line_wd (i := i) (n := (ns i).toNat) (by omega) 0 0 0 []).2
            simpa using this) (h2 i (Nat.le_refl _) (by omega))
        show (if (lineF _ L' (strL (kL i ++ 32 :: Lib.decDigits (ns i).toNat))).1 = 0 then goF _ _ _ else _) = _
        rw [hset, if_pos rfl]
        congr 1
        funext j
        by_cases hj : j = i
        · subst hj
          show (if j = j then _ else _) = _
          rw [if_pos rfl, if_pos (Nat.lt_succ_self _)]
          congr 1
          omega
        · show (if j = i then _ else _) = _
          rw [if_neg hj]
          by_cases hj2 : j < i
          · rw [if_pos hj2, if_pos (by omega)]
          · rw [if_neg hj2, if_neg (by omega)]
/-- A print is parsed as it was. -/
theorem parse_print {S : Sy} (ns : Nat → Int) (h : ∀ j, j < 15 → 0 ≤ ns j ∧ ns j ≤ 999999999) (hc : (S.fn 12 [rowC fun j => .int (ns j)]).i = 0) :
    @parseF S (prTo (rowC fun j => .int (ns j)) 15) = .tup [rowC fun j => .int (ns j), .int 0, .int 0] := by
  obtain ⟨f', n', L', h1, h2, h3⟩ := goF_print ns h 15 (Nat.le_refl _) (prTo (rowC fun j => .int (ns j)) 15).size 1 [] (by rw [List.append_nil, LL_len]; exact Nat.le_refl _)
  rw [List.append_nil, linesN_nil] at h3
  have h3 : goF (linesF (prTo (rowC fun j => .int (ns j)) 15)) usC [] = .inr (_, L') := h3
  unfold parseF
  rw [h3]
  have hr : rowC (fun j => if j < 15 then PV.int (ns j) else usC j) = rowC fun j => .int (ns j) := rowC_congr fun j hj => by rw [if_pos hj]
  show (if (S.fn 12 [rowC (fun j => if j < 15 then PV.int (ns j) else usC j)]).i = 0 then _ else _) = _
  rw [hr, if_pos hc]
/-- What stands on a tree's ways to leaves that are not bad. -/
noncomputable def surE (bad : Xp → Bool) (need : List (Xp × Bool)) : Tre → List (Xp × Bool) → Bool
  | .leaf e, Φ => bad e || need.all fun q => match lookX q.1 Φ with | some b => b == q.2 | none => false
  | .br c t f, Φ => surE bad need t ((c, true) :: Φ) && surE bad need f ((c, false) :: Φ)
  | .must c t, Φ => surE bad need t ((c, true) :: Φ)
theorem surE_is [Sy] {bad : Xp → Bool} {need : List (Xp × Bool)} : ∀ {T : Tre} {Φ : List (Xp × Bool)}, surE bad need T Φ = true → (∀ q ∈ Φ, q.1.den = .bool q.2) → ∀ p, T.ev = some p → (∀ e, bad e = true → e.den ≠ p) → ∀ q ∈ need, q.1.den = .bool q.2
  | .leaf e, Φ, h, hΦ, p, hp, hb, q, hq => by
    injection hp with hp
    have h : (bad e || need.all fun q => match lookX q.1 Φ with | some b => b == q.2 | none => false) = true := h
    rw [Bool.or_eq_true] at h
    rcases h with h | h
    · exact absurd hp (hb e h)
    · have := List.all_eq_true.1 h q hq
      cases hl : lookX q.1 Φ with
      | none => rw [hl] at this; cases this
      | some b =>
        rw [hl] at this
        have e2 : b = q.2 := by simpa using this
        have := hΦ _ (lookX_some hl)
        rw [e2] at this
        exact this
  | .br c t f, Φ, h, hΦ, p, hp, hb, q, hq => by
    have h : (surE bad need t ((c, true) :: Φ) && surE bad need f ((c, false) :: Φ)) = true := h
    obtain ⟨h1, h2⟩ := and2 h
    unfold Tre.ev at hp
    split at hp
    · rename_i hc
      exact surE_is h1 (fun q hq => by rcases List.mem_cons.1 hq with rfl | hq; exact hc; exact hΦ q hq) p hp hb q hq
    · rename_i hc
      exact surE_is h2 (fun q hq => by rcases List.mem_cons.1 hq with rfl | hq; exact hc; exact hΦ q hq) p hp hb q hq
    · cases hp
  | .must c t, Φ, h, hΦ, p, hp, hb, q, hq => by
    unfold Tre.ev at hp
    split at hp
    · rename_i hc
      exact surE_is (T := t) (Φ := (c, true) :: Φ) h (fun q hq => by rcases List.mem_cons.1 hq with rfl | hq; exact hc; exact hΦ q hq) p hp hb q hq
    · cases hp
def badI (e : Xp) : Bool := match e with | .int n => decide (n ≠ 0) | _ => false
def badH (e : Xp) : Bool := match e with | .cons _ (.cons (.int n) .nil) => decide (n ≠ 0) | _ => false
theorem hy_tot : hyT.totE = true := by kernel_rfl
theorem ck_tot : ckT.totE = true := by kernel_rfl
def hyNeed : List (Xp × Bool) := [(.cmpi .lss (.int 16) (.var 1), false), (.cmpi .lss (.var 1) (.var 0), false), (.cmpi .lss (.var 0) (.int 1), false), (.cmpi .lss (.var 2) (.int 0), false), (.cmpi .lss (.var 3) (.var 2), false), (.cmpi .lss (.int 1000) (.var 4), false), (.cmpi .lss (.var 4) (.int 1), false)]
def ckNeed : List (Xp × Bool) := [(.cmpi .lss (.cell (.var 0) 0) (.int 1), false), (.cmpi .lss (.int 8) (.cell (.var 0) 0), false), (.cmpi .lss (.cell (.var 0) 9) (.int 1), false), (.cmpi .lss (.cell (.var 0) 13) (.int 1), false), (.cmpi .lss (.int 1000) (.cell (.var 0) 13), false), (.cmpi .lss (.cell (.var 0) 14) (.int 1), false), (.cmpi .lss (.cell (.var 0) 6) (.int 1), false), (.cmpi .lss (.int 1000) (.cell (.var 0) 6), false), (.cmpi .lss (.cell (.var 0) 7) (.int 0), false), (.cmpi .lss (.int 1000) (.cell (.var 0) 7), false), (.cmpi .lss (.cell (.var 0) 8) (.int 1), false), (.cmpi .lss (.int 1000) (.cell (.var 0) 8), false), (.cmpi .eql (.cell (.app 13 (.cons (.cell (.var 0) 2) (.cons (.cell (.var 0) 1) (.cons (.cell (.var 0) 3) (.cons (.cell (.var 0) 4) (.cons (.cell (.var 0) 5) .nil)))))) 1) (.int 0), true), (.cmpi .lss (.cell (.var 0) 10) (.int 1), false), (.cmpi .lss (.int 1000) (.cell (.var 0) 10), false), (.cmpi .lss (.cell (.var 0) 11) (.int 1), false), (.cmpi .lss (.int 1000) (.cell (.var 0) 11), false), (.cmpi .eql (.cell (.app 14 (.cons (.cell (.var 0) 12) .nil)) 1) (.int 0), true)]
theorem hy_sure : surE badH hyNeed hyT [] = true := by kernel_rfl
theorem ck_sure : surE badI ckNeed ckT [] = true := by kernel_rfl
theorem cmp_no {a b : Int} (h : PV.bool (cmpZ .lss a b) = .bool false) : b ≤ a := by
  injection h with h
  have : decide (a < b) = false := h
  have := of_decide_eq_false this
  omega
theorem cmp_is {a b : Int} (h : PV.bool (cmpZ .eql a b) = .bool true) : a = b := by
  injection h with h
  have : decide (a = b) = true := h
  exact of_decide_eq_true this
theorem hy_ok (a b c d e : PV) (h : ((@evP bareSy hyT [a, b, c, d, e]).cl 1).i = 0) : 1 ≤ a.i ∧ a.i ≤ b.i ∧ b.i ≤ 16 ∧ 0 ≤ c.i ∧ c.i ≤ d.i ∧ 1 ≤ e.i ∧ e.i ≤ 1000 := by
  have he := @evE_some bareSy hyT hy_tot [a, b, c, d, e]
  have hn := @surE_is (bareSy.at (envL [a, b, c, d, e])) _ _ _ _ hy_sure (fun _ h => (List.not_mem_nil h).elim) _ he (fun x hx hd => by
    unfold badH at hx
    split at hx
    · rename_i y n
      rw [← hd] at h
      have h : n = 0 := h
      exact absurd h (of_decide_eq_true hx)
    · cases hx)
  have k := fun q (hq : q ∈ hyNeed) => hn q hq
  have h1 := cmp_no (k (.cmpi .lss (.int 16) (.var 1), false) (by simp [hyNeed]))
  have h2 := cmp_no (k (.cmpi .lss (.var 1) (.var 0), false) (by simp [hyNeed]))
  have h3 := cmp_no (k (.cmpi .lss (.var 0) (.int 1), false) (by simp [hyNeed]))
  have h4 := cmp_no (k (.cmpi .lss (.var 2) (.int 0), false) (by simp [hyNeed]))
  have h5 := cmp_no (k (.cmpi .lss (.var 3) (.var 2), false) (by simp [hyNeed]))
  have h6 := cmp_no (k (.cmpi .lss (.int 1000) (.var 4), false) (by simp [hyNeed]))
  have h7 := cmp_no (k (.cmpi .lss (.var 4) (.int 1), false) (by simp [hyNeed]))
  exact ⟨h3, h2, h1, h4, h5, h7, h6⟩
theorem pool_range {n : Int} (h : ((poolF n).cl 1).i = 0) : 1 ≤ n ∧ n ≤ 8 := by
  unfold poolF at h
  split at h
  · cases h
  · omega
/-- What may be is small. -/
theorem check_range (c : PV) (h : (ckP [c]).i = 0) (h9 : (c.cl 9).i ≤ 999999999) (h14 : (c.cl 14).i ≤ 999999999) (h4 : (c.cl 4).i ≤ 999999999) (h3 : (c.cl 3).i ≤ 999999999) : ∀ j, j < 15 → 0 ≤ (c.cl j).i ∧ (c.cl j).i ≤ 999999999 := by
  have he := @evE_some ckSy ckT ck_tot [c]
  have hn := @surE_is (ckSy.at (envL [c])) _ _ _ _ ck_sure (fun _ h => (List.not_mem_nil h).elim) _ he (fun x hx hd => by
    unfold badI at hx
    split at hx
    · rename_i n
      have h : (@evP ckSy ckT [c]).i = 0 := h
      rw [← hd] at h
      have h : n = 0 := h
      exact absurd h (of_decide_eq_true hx)
    · cases hx)
  have q0 := cmp_no (hn (.cmpi .lss (.cell (.var 0) 0) (.int 1), false) (by simp [ckNeed]))
  have r0 : 1 ≤ (c.cl 0).i := q0
  have q1 := cmp_no (hn (.cmpi .lss (.int 8) (.cell (.var 0) 0), false) (by simp [ckNeed]))
  have r1 : (c.cl 0).i ≤ 8 := q1
  have q2 := cmp_no (hn (.cmpi .lss (.cell (.var 0) 9) (.int 1), false) (by simp [ckNeed]))
  have r2 : 1 ≤ (c.cl 9).i := q2
  have q3 := cmp_no (hn (.cmpi .lss (.cell (.var 0) 13) (.int 1), false) (by simp [ckNeed]))
  have r3 : 1 ≤ (c.cl 13).i := q3
  have q4 := cmp_no (hn (.cmpi .lss (.int 1000) (.cell (.var 0) 13), false) (by simp [ckNeed]))
  have r4 : (c.cl 13).i ≤ 1000 := q4
  have q5 := cmp_no (hn (.cmpi .lss (.cell (.var 0) 14) (.int 1), false) (by simp [ckNeed]))
  have r5 : 1 ≤ (c.cl 14).i := q5
  have q6 := cmp_no (hn (.cmpi .lss (.cell (.var 0) 6) (.int 1), false) (by simp [ckNeed]))
  have r6 : 1 ≤ (c.cl 6).i := q6
  have q7 := cmp_no (hn (.cmpi .lss (.int 1000) (.cell (.var 0) 6), false) (by simp [ckNeed]))
  have r7 : (c.cl 6).i ≤ 1000 := q7
  have q8 := cmp_no (hn (.cmpi .lss (.cell (.var 0) 7) (.int 0), false) (by simp [ckNeed]))
  have r8 : 0 ≤ (c.cl 7).i := q8
  have q9 := cmp_no (hn (.cmpi .lss (.int 1000) (.cell (.var 0) 7), false) (by simp [ckNeed]))
  have r9 : (c.cl 7).i ≤ 1000 := q9
  have q10 := cmp_no (hn (.cmpi .lss (.cell (.var 0) 8) (.int 1), false) (by simp [ckNeed]))
  have r10 : 1 ≤ (c.cl 8).i := q10
  have q11 := cmp_no (hn (.cmpi .lss (.int 1000) (.cell (.var 0) 8), false) (by simp [ckNeed]))
  have r11 : (c.cl 8).i ≤ 1000 := q11
  have q12 := cmp_no (hn (.cmpi .lss (.cell (.var 0) 10) (.int 1), false) (by simp [ckNeed]))
  have r12 : 1 ≤ (c.cl 10).i := q12
  have q13 := cmp_no (hn (.cmpi .lss (.int 1000) (.cell (.var 0) 10), false) (by simp [ckNeed]))
  have r13 : (c.cl 10).i ≤ 1000 := q13
  have q14 := cmp_no (hn (.cmpi .lss (.cell (.var 0) 11) (.int 1), false) (by simp [ckNeed]))
  have r14 : 1 ≤ (c.cl 11).i := q14
  have q15 := cmp_no (hn (.cmpi .lss (.int 1000) (.cell (.var 0) 11), false) (by simp [ckNeed]))
  have r15 : (c.cl 11).i ≤ 1000 := q15
  have qh := hy_ok _ _ _ _ _ (cmp_is (hn (.cmpi .eql (.cell (.app 13 (.cons (.cell (.var 0) 2) (.cons (.cell (.var 0) 1) (.cons (.cell (.var 0) 3) (.cons (.cell (.var 0) 4) (.cons (.cell (.var 0) 5) .nil)))))) 1) (.int 0), true) (by simp [ckNeed])))
  have qp := pool_range (cmp_is (hn (.cmpi .eql (.cell (.app 14 (.cons (.cell (.var 0) 12) .nil)) 1) (.int 0), true) (by simp [ckNeed])))
  have qp : 1 ≤ (c.cl 12).i ∧ (c.cl 12).i ≤ 8 := qp
  have qh : 1 ≤ (c.cl 2).i ∧ (c.cl 2).i ≤ (c.cl 1).i ∧ (c.cl 1).i ≤ 16 ∧ 0 ≤ (c.cl 3).i ∧ (c.cl 3).i ≤ (c.cl 4).i ∧ 1 ≤ (c.cl 5).i ∧ (c.cl 5).i ≤ 1000 := qh
  exact all15 (by omega) (by omega) (by omega) (by omega) (by omega) (by omega) (by omega) (by omega) (by omega) (by omega) (by omega) (by omega) (by omega) (by omega) (by omega)
end Go.Proofs.YtdflkikhmngfiaaDoor

