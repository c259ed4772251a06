/- A table stays the newest fields in order: the plain law. -/
import Derived.Test.YtmnaljnkgaebkaaFldA
import Derived.Test.YtmnaljnkgaebkaaFldG
namespace Go.Proofs.Ytmnaljnkgaebkaa
open Go.RowKit
set_option linter.unusedVariables false
set_option linter.unusedSimpArgs false

theorem light_all' {L : List Fld} (h : light L = true) : L.length ≤ 30 ∧ ∀ f ∈ L, lightF f = true := by
  unfold light at h
  rw [Bool.and_eq_true] at h
  exact ⟨of_decide_eq_true h.1, fun f hf => List.all_eq_true.1 h.2 f hf⟩
theorem chk_zero {m : Int} {L : List Fld} : chkN m L = 0 ↔ (0 ≤ m ∧ m ≤ 4096) ∧ (∀ f ∈ L, f.never = false) ∧ ((sumF L : Nat) : Int) ≤ m := by
  unfold chkN
  constructor
  · intro h
    split at h
    · omega
    split at h
    · omega
    rename_i h1 h2
    split at h
    · omega
    rename_i h3
    refine ⟨by omega, fun f hf => ?_, by omega⟩
    cases hnv : f.never with
    | false => rfl
    | true => exact absurd (List.any_eq_true.2 ⟨f, hf, hnv⟩) h2
  · rintro ⟨h1, h2, h3⟩
    rw [if_neg (by omega), if_neg (fun h => by
      obtain ⟨f, hf, hnv⟩ := List.any_eq_true.1 h
      rw [h2 f hf] at hnv
      cases hnv), if_neg (by omega)]
theorem fitN_sum (L : List Fld) (most : Int) (h : 0 ≤ most) : ∀ k, ((sumF (L.take (fitN L most k)) : Nat) : Int) ≤ most
  | 0 => by simpa [fitN, sumF] using h
  | k + 1 => by
    unfold fitN
    split
    · exact fitN_sum L most h k
    · omega
theorem fitN_neg (L : List Fld) (most : Int) (h : most < 0) : ∀ k, fitN L most k = 0
  | 0 => rfl
  | k + 1 => by
    unfold fitN
    rw [if_pos (by omega)]
    exact fitN_neg L most h k
theorem chk_take {m most : Int} {L : List Fld} (h : chkN m L = 0) (hm : 0 ≤ most ∧ most ≤ 4096) : chkN most (L.take (fitN L most L.length)) = 0 := by
  obtain ⟨_, h2, _⟩ := chk_zero.1 h
  exact chk_zero.2 ⟨hm, fun f hf => h2 f (List.mem_of_mem_take hf), fitN_sum L most hm.1 _⟩
theorem res_ok {m most : Int} {L : List Fld} (h : chkN m L = 0) (hm : 0 ≤ most ∧ most ≤ 4096) : resE m most L = 0 ∧ resM m most L = most ∧ resL m most L = L.take (fitN L most L.length) := by
  refine ⟨?_, ?_, ?_⟩
  · exact (if_neg (fun h' => h' h)).trans (if_neg (by omega))
  · exact (if_neg (fun h' => h' h)).trans (if_neg (by omega))
  · exact (if_neg (fun h' => h' h)).trans (if_neg (by omega))
def fNew (f : Fld) : Fld := ⟨f.name, f.value, false⟩
theorem add_ok {m : Int} {L : List Fld} (h : chkN m L = 0) (f : Fld) : chkN m (addL m L f) = 0 ∧
    (((f.sz : Nat) : Int) ≤ m → ∃ k, k ≤ L.length ∧ addL m L f = fNew f :: L.take k) ∧ (m < ((f.sz : Nat) : Int) → addL m L f = []) := by
  have e : addL m L f = if (f.sz : Int) ≤ m then fNew f :: L.take (fitN L (m - f.sz) L.length) else L.take (fitN L (m - f.sz) L.length) := if_neg (fun h' => h' h)
  obtain ⟨h1, h2, h3⟩ := chk_zero.1 h
  refine ⟨?_, fun hs => ⟨_, fitN_le L _ _, by rw [e, if_pos hs]⟩, fun hs => by rw [e, if_neg (by omega), fitN_neg L _ (by omega)]; rfl⟩
  rw [e]
  split
  · rename_i hs
    refine chk_zero.2 ⟨h1, fun g hg => ?_, ?_⟩
    · rcases List.mem_cons.1 hg with rfl | hg
      · rfl
      · exact h2 g (List.mem_of_mem_take hg)
    · have := fitN_sum L (m - f.sz) (by omega) L.length
      have e2 : (fNew f).sz = f.sz := rfl
      simp only [sumF, e2]
      omega
  · rename_i hs
    rw [fitN_neg L _ (by omega)]
    refine chk_zero.2 ⟨h1, fun g hg => by simp at hg, by simp [sumF]; omega⟩
theorem sameL_refl : ∀ L : List Fld, sameL L L = true
  | [] => rfl
  | f :: l => by simp [sameL, eqF, sameL_refl l]
/-- What a step leaves: the table after an Add, beside all that came. -/
theorem step_take {m : Int} {T T1 : List Fld} (a : Nat) (hT : T1 = T.take a) (h : chkN m T1 = 0) (f : Fld) :
    addL m T1 f = (fNew f :: T).take (addL m T1 f).length ∧ (addL m T1 f).length ≤ T.length + 1 := by
  obtain ⟨_, h2, h3⟩ := add_ok h f
  by_cases hs : ((f.sz : Nat) : Int) ≤ m
  · obtain ⟨k, hk, e⟩ := h2 hs
    subst hT
    have hl : ((T.take a).take k).length = min (min k a) T.length := by rw [List.length_take, List.length_take]; omega
    rw [e]
    constructor
    · rw [List.length_cons, List.take_succ_cons, hl, List.take_take]
      congr 1
      by_cases hle : min k a ≤ T.length
      · rw [Nat.min_eq_left hle]
      · rw [List.take_of_length_le (by omega), List.take_of_length_le (by omega)]
    · rw [List.length_cons, hl]; omega
  · rw [h3 (by omega)]
    exact ⟨rfl, by simp⟩
theorem light_add {m : Int} {T1 : List Fld} (hl : ∀ f ∈ T1, lightF f = true) (f : Fld) (hf : lightF f = true) : ∀ g ∈ addL m T1 f, lightF g = true := by
  intro g hg
  unfold addL at hg
  split at hg
  · exact hl g hg
  split at hg
  · rcases List.mem_cons.1 hg with rfl | hg
    · exact hf
    · exact hl g (List.mem_of_mem_take hg)
  · exact hl g (List.mem_of_mem_take hg)
#print axioms step_take
end Go.Proofs.Ytmnaljnkgaebkaa
