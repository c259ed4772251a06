/- HdQ · HdR: joined by a program, for a claim has at most 60 files. -/
import Derived.Test.YteceinojmdgmeaaC17
import Derived.Test.YteceinojmdgmeaaC34
/- A header block, in plain words: what items are got, what they do, one behind the other. -/
namespace Go.Proofs.Yteceinojmdgmeaa
open Go.RowKit
set_option linter.unusedVariables false
set_option linter.unusedSimpArgs false

theorem decL_len {bs : List Nat} {l : List UInt8} (h : decL bs = some l) : l.length ≤ 8 * bs.length := by
  unfold decL at h
  cases hr : dRun d0 (bytesBits bs) with
  | none => rw [hr] at h; cases h
  | some s =>
    obtain ⟨a, o, f, out⟩ := s
    rw [hr] at h
    simp only at h
    split at h
    · cases h
    · obtain rfl := Option.some.inj h
      have := (dRun_d0 hr).2.2
      rw [bytesBits_len] at this
      exact this
theorem textG_size (bs : List Nat) : (textG bs).1.size ≤ 8 * bs.length := by
  unfold textG
  split
  · exact Nat.zero_le _
  split
  · exact Nat.zero_le _
  split
  · exact Nat.zero_le _
  split
  · show ((((bs.drop _).take _).map UInt8.ofNat).toArray).size ≤ _
    simp only [List.size_toArray, List.length_map, List.length_take, List.length_drop]
    omega
  · cases hd : decL ((bs.drop (getN bs 7).2.1).take (getN bs 7).1) with
    | none => exact Nat.zero_le _
    | some l =>
      have := decL_len hd
      rw [List.length_take, List.length_drop] at this
      show l.toArray.size ≤ _
      simp only [List.size_toArray]
      omega
/-- What is right of every item that is got. -/
structure GotI (m : Nat) (x : Itm) : Prop where
  kind : x.kind ≤ 4
  lo : 0 ≤ x.index
  hi : x.index ≤ 268435455
  some : x.kind = 0 → x.index ≠ 0
  extra : extraI x = false
  name : x.name.size ≤ m
  value : x.value.size ≤ m
theorem goParts_keep (bs : List Nat) (m : Nat) (hm : 8 * bs.length ≤ m) : ∀ (ps : List Bool) (x : Itm) (a : Nat), x.name.size ≤ m → x.value.size ≤ m →
    (goParts bs ps x a).2.2 = 0 → (goParts bs ps x a).1.kind = x.kind ∧ (goParts bs ps x a).1.index = x.index ∧ (goParts bs ps x a).1.name.size ≤ m ∧ (goParts bs ps x a).1.value.size ≤ m ∧
      (false ∉ ps → (goParts bs ps x a).1.name = x.name) ∧ (true ∉ ps → (goParts bs ps x a).1.value = x.value)
  | [], x, a, h1, h2, _ => ⟨rfl, rfl, h1, h2, fun _ => rfl, fun _ => rfl⟩
  | p :: ps, x, a, h1, h2, h => by
    unfold goParts at h ⊢
    by_cases he : (textG (bs.drop a)).2.2 = 0
    · have hs := textG_size (bs.drop a)
      rw [List.length_drop] at hs
      rw [if_neg (by simpa using he)] at h ⊢
      have hx1 : (x.put p (textG (bs.drop a)).1).name.size ≤ m := by unfold Itm.put; cases p <;> simp <;> omega
      have hx2 : (x.put p (textG (bs.drop a)).1).value.size ≤ m := by unfold Itm.put; cases p <;> simp <;> omega
      obtain ⟨k1, k2, k3, k4, k5, k6⟩ := goParts_keep bs m hm ps _ (a + (textG (bs.drop a)).2.1) hx1 hx2 h
      refine ⟨by rw [k1]; unfold Itm.put; cases p <;> rfl, by rw [k2]; unfold Itm.put; cases p <;> rfl, k3, k4, fun hn => ?_, fun hn => ?_⟩
      · simp only [List.mem_cons, not_or] at hn
        rw [k5 hn.2]
        cases p
        · exact absurd rfl hn.1
        · rfl
      · simp only [List.mem_cons, not_or] at hn
        rw [k6 hn.2]
        cases p
        · rfl
        · exact absurd rfl hn.1
    · rw [if_pos he] at h
      exact absurd h he
theorem itemG_got (bs : List Nat) (h : (itemG bs).2.2 = 0) : GotI (8 * bs.length) (itemG bs).1 := by
  cases bs with
  | nil => simp [itemG] at h
  | cons b l =>
    have hg := getN_ok (b :: l) (formB (kindN b)) (form_k4 (kindN b) (kind_le b)).2
    unfold itemG at h ⊢
    simp only at h ⊢
    by_cases h1 : (getN (b :: l) (formB (kindN b))).2.2 = 0
    · have h2 := hg h1
      rw [if_neg (by simpa using h1)] at h ⊢
      split at h
      · simp at h
      · rename_i h3
        rw [if_neg h3]
        generalize (getN (b :: l) (formB (kindN b))).1 = n at h h2 h3 ⊢
        obtain ⟨k1, k2, k3, k4, k5, k6⟩ := goParts_keep (b :: l) (8 * (b :: l).length) (Nat.le_refl _) (partsOf (kindN b) n) ⟨kindN b, (n : Nat), ByteArray.empty, ByteArray.empty⟩ _ (Nat.zero_le _) (Nat.zero_le _) h
        have e5 : litK (kindN b) = true → n ≠ 0 → false ∉ partsOf (kindN b) n := fun a c => by unfold partsOf; rw [if_pos a, if_neg c]; simp
        have e6 : ¬ litK (kindN b) = true → partsOf (kindN b) n = [] := fun a => by unfold partsOf; rw [if_neg a]
        have et : (ByteArray.empty).toList.isEmpty = true := by decide +kernel
        generalize partsOf (kindN b) n = ps at h k1 k2 k3 k4 k5 k6 e5 e6 ⊢
        generalize (goParts (b :: l) ps ⟨kindN b, (n : Nat), ByteArray.empty, ByteArray.empty⟩ (getN (b :: l) (formB (kindN b))).2.1).1 = G at k1 k2 k3 k4 k5 k6 ⊢
        obtain ⟨g1, g2, g3, g4⟩ := G
        dsimp only at k1 k2 k3 k4 k5 k6
        subst k1; subst k2
        refine ⟨kind_le b, Int.natCast_nonneg n, by show (n : Int) ≤ _; omega, fun hk => ?_, ?_, k3, k4⟩
        · simp only [not_and] at h3
          have := h3 hk
          show (n : Int) ≠ 0
          omega
        · unfold extraI
          dsimp only
          by_cases hl : litK (kindN b) = true
          · rw [if_pos hl]
            by_cases hn : n = 0
            · simp [hn]
            · rw [k5 (e5 hl hn), et]
              simp
          · rw [if_neg hl, k5 (by rw [e6 hl]; simp), k6 (by rw [e6 hl]; simp), et]
            rfl
    · rw [if_pos h1] at h
      exact absurd h h1
/-- All items that are got are right. -/
theorem allA_got (m : Nat) : ∀ (f : Nat) (L : List Itm) (bs : List Nat), 8 * bs.length ≤ m → (∀ x ∈ L, GotI m x) → (allA f L bs).2 = 0 → ∀ x ∈ (allA f L bs).1, GotI m x
  | 0, L, bs, _, hL, _ => by simpa [allA] using hL
  | f + 1, L, [], _, hL, _ => by simpa [allA] using hL
  | f + 1, L, b :: l, hm, hL, h => by
    unfold allA at h ⊢
    by_cases he : (itemG (b :: l)).2.2 = 0
    · rw [if_neg (by simpa using he)] at h ⊢
      refine allA_got m f _ _ (by simp only [List.length_drop]; omega) (fun x hx => ?_) h
      rcases List.mem_append.1 hx with hx | hx
      · exact hL x hx
      · obtain rfl := List.mem_singleton.1 hx
        have g := itemG_got (b :: l) he
        exact ⟨g.kind, g.lo, g.hi, g.some, g.extra, Nat.le_trans g.name hm, Nat.le_trans g.value hm⟩
    · rw [if_pos he] at h
      exact absurd h he
theorem allG_got (bs : List Nat) (h : (allG bs).2 = 0) : ∀ x ∈ (allG bs).1, GotI (8 * bs.length) x :=
  allA_got _ _ _ _ (Nat.le_refl _) (fun x hx => by cases hx) h
theorem GotI.chk {m : Nat} {x : Itm} (h : GotI m x) (hm : m ≤ 4096) : chkI x = 0 := by
  unfold chkI
  have h1 := h.kind; have h2 := h.lo; have h3 := h.hi; have h4 := h.some; have h5 := h.extra; have h6 := h.name; have h7 := h.value
  rw [if_neg (by omega), if_neg (by intro h; rcases h with h | h | h; omega; omega; exact h4 h.1 h.2), if_neg (by rw [h5]; simp), if_neg (by omega)]
end Go.Proofs.Yteceinojmdgmeaa


/- A header block, in plain words: the items done one behind the other; a state that may be still may be. -/
namespace Go.Proofs.Yteceinojmdgmeaa
open Go.RowKit
set_option linter.unusedVariables false
set_option linter.unusedSimpArgs false

theorem fitN_sum (L : List Fld) (m : Int) (hm : 0 ≤ m) : ∀ k, (sumF (L.take (fitN L m k)) : Int) ≤ m
  | 0 => by simp [fitN, sumF]; exact hm
  | k + 1 => by
    unfold fitN
    by_cases h : m < (sumF (L.take (k + 1)) : Nat)
    · rw [if_pos h]; exact fitN_sum L m hm k
    · rw [if_neg h]; omega
theorem any_take {L : List Fld} (h : L.any (·.never) = false) (k : Nat) : (L.take k).any (·.never) = false := by
  rw [List.any_eq_false] at h ⊢
  exact fun x hx => h x (List.mem_of_mem_take hx)
theorem chk_mk {mx : Int} {L : List Fld} (h1 : 0 ≤ mx) (h2 : mx ≤ 4096) (h3 : (sumF L : Int) ≤ mx) (h4 : L.any (·.never) = false) : chkN mx L = 0 := by
  unfold chkN
  rw [if_neg (by omega), h4, if_neg (by simp), if_neg (by omega)]
theorem addL_chk {mx : Int} {L : List Fld} (f : Fld) (h : chkN mx L = 0) : chkN mx (addL mx L f) = 0 := by
  obtain ⟨h1, h2, h3, h4⟩ := chk_sum h
  unfold addL
  rw [if_neg (by omega)]
  by_cases hf : (f.sz : Int) ≤ mx
  · rw [if_pos hf]
    refine chk_mk h1 h2 ?_ ?_
    · have := fitN_sum L (mx - f.sz) (by omega) L.length
      have e : (⟨f.name, f.value, false⟩ : Fld).sz = f.sz := rfl
      simp only [sumF, e]
      omega
    · rw [List.any_cons, any_take h4]; rfl
  · rw [if_neg hf]
    refine chk_mk h1 h2 ?_ (any_take h4 _)
    have e : fitN L (mx - f.sz) L.length = 0 := by
      have : ∀ k, fitN L (mx - f.sz) k = 0 := fun k => by
        induction k with
        | zero => rfl
        | succ k ih => unfold fitN; rw [if_pos (by omega)]; exact ih
      exact this _
    rw [e]
    simp [sumF]
    exact h1
theorem hchk_zero {mx cp : Int} {L : List Fld} : hchk mx cp L = 0 ↔ chkN mx L = 0 ∧ mx ≤ cp ∧ cp ≤ 4096 := by
  unfold hchk
  constructor
  · intro h
    by_cases h1 : chkN mx L ≠ 0
    · rw [if_pos h1] at h; exact absurd h h1
    · rw [if_neg h1] at h
      by_cases h2 : 4096 < cp ∨ cp < mx
      · rw [if_pos h2] at h; cases h
      · exact ⟨by omega, by omega, by omega⟩
  · rintro ⟨h1, h2, h3⟩
    rw [if_neg (by omega), if_neg (by omega)]
/-- A state that may be still may be behind an item that is done. -/
theorem hSt_chk {mx cp : Int} {L : List Fld} (x : Itm) (h : hchk mx cp L = 0) (he : (hSt mx cp L x).2.2.2.2 = 0) : hchk (hSt mx cp L x).1 cp (hSt mx cp L x).2.1 = 0 := by
  obtain ⟨h1, h2, h3⟩ := hchk_zero.1 h
  obtain ⟨k1, k2, k3, k4⟩ := chk_sum h1
  unfold hSt at he ⊢
  by_cases c4 : x.kind = 4
  · rw [if_pos c4] at he ⊢
    by_cases ci : cp < x.index
    · rw [if_pos ci] at he; cases he
    · rw [if_neg ci] at he ⊢
      dsimp only at he ⊢
      unfold resE at he
      rw [if_neg (by omega)] at he
      by_cases cm : x.index < 0 ∨ 4096 < x.index
      · rw [if_pos cm] at he; cases he
      · unfold resM resL
        rw [if_neg (by omega), if_neg cm, if_neg (by omega), if_neg cm]
        exact hchk_zero.2 ⟨chk_mk (by omega) (by omega) (fitN_sum _ _ (by omega) _) (any_take k4 _), by omega, h3⟩
  · rw [if_neg c4] at he ⊢
    by_cases cn : (hNamed L x).2 = false
    · rw [if_pos cn] at he; cases he
    · rw [if_neg cn] at he ⊢
      by_cases c0 : x.kind = 0
      · rw [if_pos c0]; exact h
      · rw [if_neg c0]
        by_cases c1 : x.kind = 1
        · rw [if_pos c1]
          exact hchk_zero.2 ⟨addL_chk _ h1, h2, h3⟩
        · rw [if_neg c1]; exact h
/-- The fields that are told are small. -/
theorem hSt_light {mx cp : Int} {L : List Fld} {x : Itm} (h : hchk mx cp L = 0) (h1 : x.name.size ≤ 40000) (h2 : x.value.size ≤ 40000) : lightF (hSt mx cp L x).2.2.1 = true := by
  have hl := (chk_light (hchk_zero.1 h).1).2
  have hn : lightF (hNamed L x).1 = true := by
    unfold hNamed
    by_cases c : x.index = 0
    · rw [if_pos c]; simp [lightF, h1]; exact Nat.zero_le _
    · rw [if_neg c]; exact atF_light L hl x.index
  have hn1 : (hNamed L x).1.name.size ≤ 40000 := by
    simp only [lightF, Bool.and_eq_true, decide_eq_true_eq] at hn
    exact hn.1
  have hf : ∀ b, lightF ⟨(hNamed L x).1.name, x.value, b⟩ = true := fun b => by simp [lightF, hn1, h2]
  unfold hSt
  split
  · split <;> rfl
  · split
    · rfl
    · split
      · exact hn
      · split
        · exact hf _
        · exact hf _
/-- Items done one behind the other: the table's size, its fields, the fields told, the error. -/
def hRun (cp : Int) : List Itm → Int → List Fld → Bool → List Fld → Int × List Fld × List Fld × Int
  | [], mx, L, _, out => (mx, L, out, 0)
  | x :: t, mx, L, bg, out =>
    if x.kind = 4 ∧ bg = true then (mx, L, out, 10)
    else if (hSt mx cp L x).2.2.2.2 ≠ 0 then (mx, L, out, (hSt mx cp L x).2.2.2.2)
    else if (hSt mx cp L x).2.2.2.1 = true then hRun cp t (hSt mx cp L x).1 (hSt mx cp L x).2.1 true (out ++ [(hSt mx cp L x).2.2.1])
    else hRun cp t (hSt mx cp L x).1 (hSt mx cp L x).2.1 bg out
/-- What a block does: the table's size, its fields, the fields told, whether they are few enough, the error. -/
def hBlk (mx cp : Int) (L : List Fld) (bs : List Nat) : Int × List Fld × List Fld × Bool × Int :=
  if hchk mx cp L ≠ 0 then (mx, L, [], false, hchk mx cp L)
  else if (allG bs).2 ≠ 0 then (mx, L, [], false, ((allG bs).2 : Nat))
  else if (hRun cp (allG bs).1 mx L false []).2.2.2 ≠ 0 then (mx, L, [], false, (hRun cp (allG bs).1 mx L false []).2.2.2)
  else if 1024 < sumF (hRun cp (allG bs).1 mx L false []).2.2.1 then ((hRun cp (allG bs).1 mx L false []).1, (hRun cp (allG bs).1 mx L false []).2.1, [], false, 0)
  else ((hRun cp (allG bs).1 mx L false []).1, (hRun cp (allG bs).1 mx L false []).2.1, (hRun cp (allG bs).1 mx L false []).2.2.1, true, 0)
def BlkPost (mx cp : Int) (L : List Fld) (bs : List Nat) (w : World) (e : Ending) (w' : World) : Prop :=
  ∃ ob nb cb oc nc cc, e = .returned (.tuple #[.agg #[.int .i64 (hBlk mx cp L bs).1, .slice ob nb cb, .int .i64 cp], .slice oc nc cc, .bool (hBlk mx cp L bs).2.2.2.1, .int .i64 (hBlk mx cp L bs).2.2.2.2]) ∧
    (hBlk mx cp L bs).2.1.length = nb ∧ nb ≤ cb ∧ FieldsN w' ob (hBlk mx cp L bs).2.1 ∧ (hBlk mx cp L bs).2.2.1.length = nc ∧ nc ≤ cc ∧ FieldsN w' oc (hBlk mx cp L bs).2.2.1 ∧ Below w.heap.size w w'
end Go.Proofs.Yteceinojmdgmeaa

