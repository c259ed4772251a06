/- What is printed is parsed; what is clean stays so: plain laws. -/
import Derived.Test.YtbpcknjobbjmpaaDoorQryP
namespace Go.Proofs.YtbpcknjobbjmpaaDoor
open Go.RowKit
set_option linter.unusedVariables false
set_option linter.unusedSimpArgs false

def LL (s : ByteArray) : List UInt8 := s.data.toList
theorem LL_strL (l : List UInt8) : LL (strL l) = l := by unfold LL strL; simp
theorem strL_LL (s : ByteArray) : strL (LL s) = s := by unfold LL strL; simp
theorem LL_inj {s t : ByteArray} (h : LL s = LL t) : s = t := by rw [← strL_LL s, ← strL_LL t, h]
theorem LL_app (s t : ByteArray) : LL (s ++ t) = LL s ++ LL t := by unfold LL; simp
theorem LL_len (s : ByteArray) : (LL s).length = s.size := (sz s).symm
theorem LL_map_inj : ∀ {a b : List ByteArray}, a.map LL = b.map LL → a = b
  | [], [], _ => rfl
  | [], y :: b, h => by simp at h
  | x :: a, [], h => by simp at h
  | x :: a, y :: b, h => by
    simp only [List.map_cons, List.cons.injEq] at h
    rw [LL_inj h.1, LL_map_inj h.2]
theorem joinL_eq (c : UInt8) : ∀ l : List (List UInt8), Lib.join l [c] = joinL c l
  | [] => rfl
  | [x] => Lib.join_one x [c]
  | x :: y :: r => by
    have ih := joinL_eq c (y :: r)
    unfold Lib.join at ih ⊢
    unfold List.intercalate at ih ⊢
    rw [show joinL c (x :: y :: r) = x ++ c :: joinL c (y :: r) from rfl, ← ih]
    simp [List.intersperse]
theorem LL_joinS (L : List ByteArray) (c : UInt8) : LL (joinS L c) = joinL c (L.map LL) := by unfold joinS; rw [LL_strL, joinL_eq]; rfl
theorem spl_no (c : UInt8) (x : List UInt8) (h : c ∉ x) : splL c x = [x] := (cutL_miss c x (by rw [cutL_none c x h])).1
theorem spl_join (c : UInt8) : ∀ ls : List (List UInt8), ls ≠ [] → (∀ x ∈ ls, c ∉ x) → splL c (joinL c ls) = ls
  | [], h, _ => absurd rfl h
  | [x], _, hx => spl_no c x (hx x (by simp))
  | x :: y :: r, _, hx => by
    have h1 := cutL_app c (joinL c (y :: r)) x (hx x (by simp))
    have h2 := cutL_hit c (x ++ c :: joinL c (y :: r)) (by rw [h1])
    rw [h1] at h2
    show splL c (x ++ c :: joinL c (y :: r)) = _
    rw [h2]
    simp only
    rw [spl_join c (y :: r) (by simp) (fun z hz => hx z (List.mem_cons_of_mem _ hz))]
theorem spl_mem (c : UInt8) : ∀ (l : List UInt8), ∀ x ∈ splL c l, c ∉ x ∧ ∀ b ∈ x, b ∈ l
  | [], x, h => by simp [splL] at h; subst h; simp
  | b :: l, x, h => by
    rw [splL_cons] at h
    by_cases e : b = c
    · rw [if_pos e] at h
      rcases List.mem_cons.1 h with h | h
      · subst h; simp
      · obtain ⟨h1, h2⟩ := spl_mem c l x h
        exact ⟨h1, fun y hy => List.mem_cons_of_mem _ (h2 y hy)⟩
    · rw [if_neg e] at h
      have ih := spl_mem c l
      cases hs : splL c l with
      | nil => exact absurd hs (splL_ne c l)
      | cons y r =>
        rw [hs] at h ih
        simp only at h
        rcases List.mem_cons.1 h with h | h
        · subst h
          obtain ⟨h1, h2⟩ := ih y (by simp)
          constructor
          · simp only [List.mem_cons, not_or]; exact ⟨fun e2 => e e2.symm, h1⟩
          · intro z hz
            rcases List.mem_cons.1 hz with h | h
            · exact List.mem_cons.2 (.inl h)
            · exact List.mem_cons.2 (.inr (h2 z h))
        · obtain ⟨h1, h2⟩ := ih x (List.mem_cons_of_mem _ h)
          exact ⟨h1, fun y hy => List.mem_cons_of_mem _ (h2 y hy)⟩
theorem parts_LL (s : ByteArray) (c : UInt8) : (partsS s c).map LL = splL c (LL s) := parts_eq c s.size s (Nat.le_refl _)
theorem cutS_eq (s : ByteArray) (c : UInt8) : cutS s c = (strL (cutL c (LL s)).1, strL (cutL c (LL s)).2.1, (cutL c (LL s)).2.2) := by unfold cutS; rw [cut_eq]; rfl
theorem cutS_app (a b : ByteArray) (c : UInt8) (h : c ∉ LL a) : cutS (a ++ ⟨#[c]⟩ ++ b) c = (a, b, true) := by
  rw [cutS_eq, LL_app, LL_app, List.append_assoc]
  show (strL (cutL c (LL a ++ c :: LL b)).1, strL (cutL c (LL a ++ c :: LL b)).2.1, (cutL c (LL a ++ c :: LL b)).2.2) = _
  rw [cutL_app c _ _ h]
  simp only
  rw [strL_LL, strL_LL]
theorem cutS_none (a : ByteArray) (c : UInt8) (h : c ∉ LL a) : cutS a c = (a, emS, false) := by
  rw [cutS_eq, cutL_none c _ h]
  simp only
  rw [strL_LL]
  rfl
theorem cutS_no (s : ByteArray) (c : UInt8) : c ∉ LL (cutS s c).1 := by rw [cutS_eq]; simp only; rw [LL_strL]; exact cutL_no c _
theorem enc_no (c : UInt8) (hc : okB c.toNat = false) (s : ByteArray) : c ∉ LL (encS s) := by
  intro h
  have h1 : c.toNat ∈ bytesU (encS s) := List.mem_map.2 ⟨c, h, rfl⟩
  unfold encS at h1
  rw [bytesU_bsB _ (encL_lt _ (bytesU_lt s))] at h1
  rw [ok_enc _ (bytesU_lt s) _ h1] at hc
  cases hc
theorem pair_back (p : Pr) : pairT (pairS p) = (p, 0) := by
  have e : cutS (pairS p) 61 = (encS p.k, encS p.v, true) := cutS_app _ _ 61 (enc_no 61 (by decide) p.k)
  unfold pairT
  rw [e]
  simp only
  rw [qdec_enc, qdec_enc]
  rfl
theorem pairS_ne (p : Pr) : ¬ (pairS p).size = 0 := by
  unfold pairS
  rw [ByteArray.size_append, ByteArray.size_append]
  have : (ByteArray.mk #[61]).size = 1 := rfl
  omega
theorem pairS_no (p : Pr) : (38 : UInt8) ∉ LL (pairS p) := by
  unfold pairS
  rw [LL_app, LL_app]
  have h1 := enc_no 38 (by decide) p.k
  have h2 := enc_no 38 (by decide) p.v
  have e : LL ⟨#[61]⟩ = [61] := rfl
  rw [e]
  simp only [List.mem_append, List.mem_singleton, not_or]
  exact ⟨⟨h1, by decide⟩, h2⟩
theorem parseA_back : ∀ (L acc : List Pr), parseA acc (L.map pairS) = (acc ++ L, 0)
  | [], acc => by simp [parseA]
  | p :: L, acc => by
    rw [List.map_cons, parseA, if_neg (pairS_ne p), pair_back]
    simp only
    rw [if_neg (by simp), parseA_back L]
    simp
theorem parts_print (L : List Pr) (h : L ≠ []) : partsS (printT L) 38 = L.map pairS := by
  apply LL_map_inj
  rw [parts_LL]
  unfold printT
  rw [LL_joinS]
  refine spl_join 38 _ (by simpa using h) (fun x hx => ?_)
  obtain ⟨y, hy, rfl⟩ := List.mem_map.1 hx
  obtain ⟨p, _, rfl⟩ := List.mem_map.1 hy
  exact pairS_no p
theorem parse_print (L : List Pr) (h : L.length ≤ 64) : parseT (printT L) = (L, 0) := by
  have e : parseA [] (partsS (printT L) 38) = (L, 0) := by
    by_cases hL : L = []
    · subst hL
      have : partsS (printT []) 38 = [⟨#[]⟩] := by kernel_rfl
      rw [this, parseA, if_pos (show (ByteArray.mk #[]).size = 0 from rfl), parseA]
    · rw [parts_print L hL, parseA_back]
      simp
  unfold parseT
  rw [e, if_neg (by simp), if_neg (by simp only; omega)]
/-! Clean -/
def goodP (p : ByteArray) : Prop := p.size ≠ 0 ∧ dotB p = false ∧ ddotB p = false ∧ (47 : UInt8) ∉ LL p ∧ (63 : UInt8) ∉ LL p
theorem cleanA_good : ∀ (ps acc : List ByteArray), (∀ p ∈ ps, (47 : UInt8) ∉ LL p ∧ (63 : UInt8) ∉ LL p) → (∀ p ∈ acc, goodP p) → ∀ p ∈ cleanA acc ps, goodP p
  | [], acc, _, ha => by rw [cleanA]; exact ha
  | x :: ps, acc, hp, ha => by
    rw [cleanA]
    have hp' : ∀ p ∈ ps, (47 : UInt8) ∉ LL p ∧ (63 : UInt8) ∉ LL p := fun p h => hp p (List.mem_cons_of_mem _ h)
    split
    · exact cleanA_good ps acc hp' ha
    · split
      · exact cleanA_good ps acc hp' ha
      · split
        · exact cleanA_good ps _ hp' (fun p h => ha p (List.mem_of_mem_take h))
        · rename_i h1 h2 h3
          refine cleanA_good ps _ hp' (fun p h => ?_)
          rcases List.mem_append.1 h with h | h
          · exact ha p h
          · simp at h
            subst h
            exact ⟨h1, by simpa using h2, by simpa using h3, hp p (by simp)⟩
theorem cleanA_all : ∀ (ps acc : List ByteArray), (∀ p ∈ ps, goodP p) → cleanA acc ps = acc ++ ps
  | [], acc, _ => by simp [cleanA]
  | x :: ps, acc, h => by
    obtain ⟨h1, h2, h3, _⟩ := h x (by simp)
    rw [cleanA, if_neg h1, if_neg (by simp [h2]), if_neg (by simp [h3]), cleanA_all ps _ (fun p hp => h p (List.mem_cons_of_mem _ hp))]
    simp
theorem rest_sub (h : ByteArray) : ∀ b ∈ LL (restS h), b ∈ LL h := by
  intro b hb
  unfold restS at hb
  rw [LL_strL] at hb
  unfold Lib.trimPrefix at hb
  split at hb
  · exact List.mem_of_mem_drop hb
  · exact hb
theorem kept_good (h : ByteArray) (h63 : (63 : UInt8) ∉ LL h) : ∀ p ∈ keptS h, goodP p := by
  refine cleanA_good _ [] (fun p hp => ?_) (by simp)
  have h1 : LL p ∈ splL 47 (LL (restS h)) := by rw [← parts_LL]; exact List.mem_map.2 ⟨p, hp, rfl⟩
  obtain ⟨a, b⟩ := spl_mem 47 _ _ h1
  exact ⟨a, fun hb => h63 (rest_sub h _ (b _ hb))⟩
def hdS (K : List ByteArray) : ByteArray := ⟨#[47]⟩ ++ joinS K 47
theorem LL_hdS (K : List ByteArray) : LL (hdS K) = 47 :: joinL 47 (K.map LL) := by unfold hdS; rw [LL_app, LL_joinS]; rfl
theorem mem_join (c b : UInt8) : ∀ l : List (List UInt8), b ∈ joinL c l → b = c ∨ ∃ x ∈ l, b ∈ x
  | [], h => by simp [joinL] at h
  | [x], h => .inr ⟨x, by simp, h⟩
  | x :: y :: r, h => by
    have h : b ∈ x ++ c :: joinL c (y :: r) := h
    rcases List.mem_append.1 h with h | h
    · exact .inr ⟨x, by simp, h⟩
    · rcases List.mem_cons.1 h with h | h
      · exact .inl h
      · rcases mem_join c b (y :: r) h with h | ⟨z, hz, h⟩
        · exact .inl h
        · exact .inr ⟨z, List.mem_cons_of_mem _ hz, h⟩
theorem hd_no63 (K : List ByteArray) (h : ∀ p ∈ K, goodP p) : (63 : UInt8) ∉ LL (hdS K) := by
  rw [LL_hdS]
  simp only [List.mem_cons, not_or]
  refine ⟨by decide, fun hb => ?_⟩
  rcases mem_join 47 63 _ hb with e | ⟨x, hx, hbx⟩
  · exact absurd e (by decide)
  · obtain ⟨p, hp, rfl⟩ := List.mem_map.1 hx
    exact (h p hp).2.2.2.2 hbx
theorem beg_hd (K : List ByteArray) : begS (hdS K) = true := by
  unfold begS
  show Lib.hasPrefix (LL (hdS K)) [47] = true
  rw [LL_hdS]
  rfl
theorem kept_hd (K : List ByteArray) (h : ∀ p ∈ K, goodP p) : keptS (hdS K) = K := by
  have hr : LL (restS (hdS K)) = joinL 47 (K.map LL) := by
    unfold restS
    rw [LL_strL]
    show Lib.trimPrefix (LL (hdS K)) [47] = _
    have := beg_hd K
    unfold begS at this
    change Lib.hasPrefix (LL (hdS K)) [47] = true at this
    unfold Lib.trimPrefix
    rw [if_pos this, LL_hdS]
    rfl
  unfold keptS
  by_cases hK : K = []
  · subst hK
    have e : restS (hdS []) = ⟨#[]⟩ := LL_inj (by rw [hr]; rfl)
    rw [e]
    rfl
  · have e : partsS (restS (hdS K)) 47 = K := LL_map_inj (by
      rw [parts_LL, hr]
      exact spl_join 47 _ (by simpa using hK) (fun x hx => by obtain ⟨p, hp, rfl⟩ := List.mem_map.1 hx; exact (h p hp).2.2.2.1))
    rw [e, cleanA_all K [] h]
    rfl
theorem cleanT_no (s : ByteArray) (h : begS (cutS s 63).1 = false) : cleanT s = s := by unfold cleanT; rw [if_pos h]
theorem cleanT_yes (s : ByteArray) (h : begS (cutS s 63).1 = true) : cleanT s = (if (cutS s 63).2.2 = false then hdS (keptS (cutS s 63).1) else hdS (keptS (cutS s 63).1) ++ (⟨#[63]⟩ ++ (cutS s 63).2.1)) := by
  unfold cleanT
  rw [if_neg (by simp [h])]
  rfl
theorem cut_clean (s : ByteArray) (h : begS (cutS s 63).1 = true) : cutS (cleanT s) 63 = (hdS (keptS (cutS s 63).1), (if (cutS s 63).2.2 = false then emS else (cutS s 63).2.1), (cutS s 63).2.2) := by
  have hg := kept_good (cutS s 63).1 (cutS_no s 63)
  have h63 := hd_no63 _ hg
  rw [cleanT_yes s h]
  cases hi : (cutS s 63).2.2 with
  | false => rw [if_pos rfl, if_pos rfl, cutS_none _ _ h63]
  | true => rw [if_neg (by simp), if_neg (by simp), ← ByteArray.append_assoc, cutS_app _ _ _ h63]
theorem clean_idem (s : ByteArray) : cleanT (cleanT s) = cleanT s := by
  cases h : begS (cutS s 63).1 with
  | false => rw [cleanT_no s h, cleanT_no s h]
  | true =>
    have hc := cut_clean s h
    have hg := kept_good (cutS s 63).1 (cutS_no s 63)
    rw [cleanT_yes (cleanT s) (by rw [hc]; exact beg_hd _), hc]
    simp only
    rw [kept_hd _ hg, cleanT_yes s h]
    cases hi : (cutS s 63).2.2 with
    | false => rfl
    | true => rfl
theorem beg_iff (s : ByteArray) : begS (cutS s 63).1 = true ↔ ∃ l, LL s = 47 :: l := by
  have e : begS (cutS s 63).1 = Lib.hasPrefix (cutL 63 (LL s)).1 [47] := by
    rw [cutS_eq]
    unfold begS
    show Lib.hasPrefix (LL (strL (cutL 63 (LL s)).1)) [47] = _
    rw [LL_strL]
  rw [e]
  cases hs : LL s with
  | nil => simp [cutL, Lib.hasPrefix, List.isPrefixOf]
  | cons b l =>
    rw [cutL_cons]
    by_cases hb : b = 63
    · rw [if_pos hb]
      simp [Lib.hasPrefix, List.isPrefixOf, hb]
    · rw [if_neg hb]
      simp [Lib.hasPrefix, List.isPrefixOf]
      exact eq_comm
/-! The parts of a clean path -/
theorem rem_step (l : List UInt8) (last i j : Nat) (x : List UInt8) (r : List (List UInt8)) (h : l.drop last = 47 :: joinL 47 (x :: r)) (hi : i = last + 1 + j) :
    (j < x.length → l[i]? = x[j]?) ∧
    (j = x.length → (l.drop (last + 1)).take (i - (last + 1)) = x ∧ (r = [] → i = l.length) ∧ (∀ y r', r = y :: r' → l[i]? = some 47 ∧ l.drop i = 47 :: joinL 47 (y :: r'))) := by
  have h1 : l.drop (last + 1) = joinL 47 (x :: r) := by
    rw [← List.drop_drop, h]
    rfl
  have hlen : l.length = last + 1 + (joinL 47 (x :: r)).length := by
    have := congrArg List.length h
    rw [List.length_drop, List.length_cons] at this
    omega
  have hat : l[i]? = (joinL 47 (x :: r))[j]? := by rw [← h1, List.getElem?_drop, hi]
  have hdr : l.drop i = (joinL 47 (x :: r)).drop j := by rw [← h1, List.drop_drop, hi]
  have hij : i - (last + 1) = j := by omega
  cases r with
  | nil =>
    have e : joinL 47 [x] = x := rfl
    rw [e] at hat hdr hlen h1
    refine ⟨fun _ => hat, fun hj => ⟨by rw [h1, hij, hj, List.take_length], fun _ => (by omega), fun y r' hr => (by cases hr)⟩⟩
  | cons y r =>
    have e : joinL 47 (x :: y :: r) = x ++ 47 :: joinL 47 (y :: r) := rfl
    rw [e] at hat hdr hlen h1
    refine ⟨fun hj => by rw [hat, List.getElem?_append_left hj], fun hj => ⟨by rw [h1, hij, hj, List.take_left], fun hr => (by cases hr), fun y' r' hr => ?_⟩⟩
    cases hr
    constructor
    · rw [hat, hj, List.getElem?_append_right (Nat.le_refl _), Nat.sub_self]; rfl
    · rw [hdr, hj, List.drop_left]
#print axioms clean_idem
end Go.Proofs.YtbpcknjobbjmpaaDoor
