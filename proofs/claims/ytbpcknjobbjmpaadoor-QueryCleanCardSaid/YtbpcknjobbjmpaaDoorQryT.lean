/- QueryClean: the walk. -/
import Derived.Test.YtbpcknjobbjmpaaDoorQryR
import Derived.Test.YtbpcknjobbjmpaaDoorQryS
import Derived.Laws.DeepStrings4
namespace Go.Proofs.YtbpcknjobbjmpaaDoor
open Go.RowKit
set_option linter.unusedVariables false
set_option linter.unusedSimpArgs false

theorem kept_len (h : ByteArray) (hs : h.size ≤ 200) : (keptS h).length ≤ 201 ∧ ∀ p ∈ keptS h, p.size ≤ 200 := by
  have aux : ∀ (ps acc : List ByteArray), (cleanA acc ps).length ≤ acc.length + ps.length ∧ ((∀ p ∈ acc, p.size ≤ 200) → (∀ p ∈ ps, p.size ≤ 200) → ∀ p ∈ cleanA acc ps, p.size ≤ 200) := by
    intro ps
    induction ps with
    | nil => intro acc; rw [cleanA]; exact ⟨Nat.le_refl _, fun h _ => h⟩
    | cons x ps ih =>
      intro acc
      rw [cleanA]
      split
      · have := ih acc; exact ⟨by simp only [List.length_cons]; omega, fun h1 h2 => this.2 h1 (fun p hp => h2 p (List.mem_cons_of_mem _ hp))⟩
      · split
        · have := ih acc; exact ⟨by simp only [List.length_cons]; omega, fun h1 h2 => this.2 h1 (fun p hp => h2 p (List.mem_cons_of_mem _ hp))⟩
        · split
          · have := ih (upL acc)
            have hu := upL_len acc
            exact ⟨by simp only [List.length_cons]; omega, fun h1 h2 => this.2 (upL_mem h1) (fun p hp => h2 p (List.mem_cons_of_mem _ hp))⟩
          · have := ih (acc ++ [x])
            refine ⟨by rw [List.length_append] at this; simp only [List.length_cons, List.length_nil] at this ⊢; omega, fun h1 h2 => this.2 (fun p hp => ?_) (fun p hp => h2 p (List.mem_cons_of_mem _ hp))⟩
            rcases List.mem_append.1 hp with h | h
            · exact h1 p h
            · simp at h; subst h; exact h2 p (by simp)
  have hr := restS_le h
  have hpc := partsS_count (restS h) 47
  obtain ⟨a, b⟩ := aux (partsS (restS h) 47) []
  refine ⟨by unfold keptS; simp only [List.length_nil] at a; omega, b (by simp) (fun p hp => ?_)⟩
  have := partsS_le (restS h) 47 p hp
  omega
theorem hdS_le (h : ByteArray) (hs : h.size ≤ 200) : (hdS (keptS h)).size ≤ 41000 := by
  obtain ⟨a, b⟩ := kept_len h hs
  unfold hdS
  rw [ByteArray.size_append]
  have h1 := join_size (keptS h) 47 200 b
  have h2 : (200 + 1) * (keptS h).length ≤ 201 * 201 := Nat.mul_le_mul_left _ a
  have e : (ByteArray.mk #[47]).size = 1 := rfl
  omega
theorem cleanT_le (s : ByteArray) (hs : s.size ≤ 200) : (cleanT s).size ≤ 42000 := by
  obtain ⟨l1, l2⟩ := cutS_le s 63
  cases h : begS (cutS s 63).1 with
  | false => rw [cleanT_no s h]; omega
  | true =>
    rw [cleanT_yes s h]
    have := hdS_le (cutS s 63).1 (by omega)
    have e : (ByteArray.mk #[63]).size = 1 := rfl
    split
    · omega
    · rw [ByteArray.size_append, ByteArray.size_append]; omega
/-- A part that a clean path may have. -/
def goodL (x : List UInt8) : Prop := x ≠ [] ∧ x ≠ [46] ∧ x ≠ [46, 46] ∧ (47 : UInt8) ∉ x
theorem good_LL {p : ByteArray} (h : goodP p) : goodL (LL p) := by
  obtain ⟨h1, h2, h3, h4, _⟩ := h
  refine ⟨fun e => h1 (by rw [← LL_len, e]; rfl), fun e => ?_, fun e => ?_, h4⟩
  · unfold dotB at h2
    rw [ByteArray.toList_eq] at h2
    change (LL p == [46]) = false at h2
    rw [e] at h2
    simp at h2
  · unfold ddotB at h3
    rw [ByteArray.toList_eq] at h3
    change (LL p == [46, 46]) = false at h3
    rw [e] at h3
    simp at h3
theorem part_facts {p : ByteArray} {x : List UInt8} (h : LL p = x) (hg : goodL x) : p.toList.isEmpty = false ∧ (p.toList == [46]) = false ∧ (p.toList == [46, 46]) = false := by
  obtain ⟨h1, h2, h3, _⟩ := hg
  have e : p.toList = x := by rw [ByteArray.toList_eq]; exact h
  rw [e]
  refine ⟨by simpa using h1, by simpa using h2, by simpa using h3⟩
theorem at_LL (s : ByteArray) (k : Nat) (h : k < s.size) : (LL s)[k]? = some s[k] := by
  unfold LL
  rw [List.getElem?_eq_getElem (by rw [← sz]; exact h)]
  rfl
/-- What stands of the path behind a slash, and how far it is looked at. -/
def RemAt (l : List UInt8) (last i : Nat) : Prop := ∃ x r j, l.drop last = 47 :: joinL 47 (x :: r) ∧ i = last + 1 + j ∧ j ≤ x.length ∧ ∀ y ∈ x :: r, goodL y
theorem rem_len {l : List UInt8} {last i : Nat} (h : RemAt l last i) : i ≤ l.length ∧ last < l.length ∧ last < i := by
  obtain ⟨x, r, j, hd, hi, hj, _⟩ := h
  have := congrArg List.length hd
  rw [List.length_drop, List.length_cons] at this
  have hx : x.length ≤ (joinL 47 (x :: r)).length := by
    cases r with
    | nil => exact Nat.le_refl _
    | cons y r => show x.length ≤ (x ++ 47 :: joinL 47 (y :: r)).length; simp
  omega
theorem rem_next {Q : ByteArray} {last i : Nat} (h : RemAt (LL Q) last i) :
    (∃ hi : i < Q.size, (Q[i]'hi).toNat ≠ 47 ∧ RemAt (LL Q) last (i + 1)) ∨
    (i = Q.size ∧ (Q.extract (last + 1) i).toList.isEmpty = false ∧ ((Q.extract (last + 1) i).toList == [46]) = false ∧ ((Q.extract (last + 1) i).toList == [46, 46]) = false) ∨
    (∃ hi : i < Q.size, (Q[i]'hi).toNat = 47 ∧ RemAt (LL Q) i (i + 1) ∧ (Q.extract (last + 1) i).toList.isEmpty = false ∧ ((Q.extract (last + 1) i).toList == [46]) = false ∧ ((Q.extract (last + 1) i).toList == [46, 46]) = false) := by
  have hle := rem_len h
  obtain ⟨x, r, j, hd, hi, hj, hg⟩ := h
  have hgx := hg x (by simp)
  obtain ⟨hA, hB⟩ := rem_step (LL Q) last i j x r hd hi
  rcases Nat.lt_or_ge j x.length with hlt | hge
  · left
    have h1 := hA hlt
    have hx : x[j]? = some x[j] := List.getElem?_eq_getElem hlt
    rw [hx] at h1
    have hlen := (List.getElem?_eq_some_iff.1 h1).1
    rw [LL_len] at hlen
    refine ⟨hlen, ?_, x, r, j + 1, hd, by omega, hlt, hg⟩
    rw [at_LL Q i hlen] at h1
    have e : Q[i] = x[j] := Option.some.inj h1
    rw [e]
    intro h47
    have : x[j] = 47 := UInt8.toNat_inj.1 h47
    exact hgx.2.2.2 (this ▸ List.getElem_mem hlt)
  · right
    have hjx : j = x.length := by omega
    obtain ⟨hpart, hend, hmore⟩ := hB hjx
    have hp : LL (Q.extract (last + 1) i) = x := by unfold LL; rw [Lib.extract_data]; exact hpart
    obtain ⟨f1, f2, f3⟩ := part_facts hp hgx
    cases r with
    | nil =>
      left
      exact ⟨by rw [← LL_len]; exact hend rfl, f1, f2, f3⟩
    | cons y r' =>
      right
      obtain ⟨m1, m2⟩ := hmore y r' rfl
      have hlen := (List.getElem?_eq_some_iff.1 m1).1
      rw [LL_len] at hlen
      refine ⟨hlen, ?_, ⟨y, r', 0, m2, by omega, Nat.zero_le _, fun z hz => hg z (List.mem_cons_of_mem _ hz)⟩, f1, f2, f3⟩
      rw [at_LL Q i hlen] at m1
      rw [Option.some.inj m1]
      rfl
theorem rem_start (K : List ByteArray) (hK : K ≠ []) (h : ∀ p ∈ K, goodP p) : RemAt (LL (hdS K)) 0 1 := by
  cases K with
  | nil => exact absurd rfl hK
  | cons p K =>
    refine ⟨LL p, K.map LL, 0, by rw [LL_hdS]; rfl, by omega, Nat.zero_le _, fun y hy => ?_⟩
    rw [← List.map_cons] at hy
    obtain ⟨q, hq, rfl⟩ := List.mem_map.1 hy
    exact good_LL (h q hq)
theorem hd_facts (K : List ByteArray) (h : ∀ p ∈ K, goodP p) : ∃ h0 : 0 < (hdS K).size, ((hdS K)[0]'h0).toNat = 47 ∧ (K = [] → (hdS K).toList = [47]) ∧ (K ≠ [] → ((hdS K).toList == [47]) = false) := by
  have hl := LL_hdS K
  have h0 : 0 < (hdS K).size := by rw [← LL_len, hl]; simp
  refine ⟨h0, ?_, fun e => ?_, fun e => ?_⟩
  · have := at_LL (hdS K) 0 h0
    rw [hl] at this
    have e : (hdS K)[0] = 47 := (Option.some.inj this).symm
    rw [e]
    rfl
  · subst e
    rw [ByteArray.toList_eq]
    exact hl
  · have e2 : (hdS K).toList = 47 :: joinL 47 (K.map LL) := by rw [ByteArray.toList_eq]; exact hl
    rw [e2]
    cases K with
    | nil => exact absurd rfl e
    | cons p K =>
      have hp := (good_LL (h p (by simp))).1
      have : joinL 47 ((p :: K).map LL) ≠ [] := by
        cases K with
        | nil => exact hp
        | cons q K => show LL p ++ 47 :: joinL 47 (LL q :: K.map LL) ≠ []; simp
      simpa using this
end Go.Proofs.YtbpcknjobbjmpaaDoor
