/- Order and return in plain words. -/
import Derived.Test.YtecmccihldjicaaDoorReqR
namespace Go.Proofs.YtecmccihldjicaaDoor
open Go.RowKit
set_option linter.unusedVariables false
set_option linter.unusedSimpArgs false

/-- Fields in front, and others behind: what stands in front is told from them. -/
theorem front_app {H T : List Fld} (hH : H.all colonB = true) (hT : ∀ f, T.head? = some f → colonB f = false) : frontN (H ++ T) = H.length := by
  unfold frontN
  induction H with
  | nil =>
    cases T with
    | nil => rfl
    | cons f t => rw [List.nil_append, List.takeWhile_cons, if_neg (by rw [hT f rfl]; decide)]
  | cons a l ih =>
    rw [List.all_cons, Bool.and_eq_true] at hH
    rw [List.cons_append, List.takeWhile_cons, if_pos hH.1, List.length_cons, ih hH.2, List.length_cons]
theorem front_parts {H T : List Fld} (hH : H.all colonB = true) (hT : ∀ f, T.head? = some f → colonB f = false) : (H ++ T).take (frontN (H ++ T)) = H ∧ (H ++ T).drop (frontN (H ++ T)) = T := by
  rw [front_app hH hT]
  exact ⟨List.take_left, List.drop_left⟩
/-- All is right, said of the two parts. -/
structure Good2 (H T : List Fld) (en : Bool) (m s p : ByteArray) : Prop where
  hm : valuesL H nMethod = [m]
  hs : valuesL H nScheme = [s]
  hp : valuesL H nPath = [p]
  ha : (valuesL H nAuth).length ≤ 1
  hv : ∀ f ∈ H, psName f.name.data.toList = true ∧ valS f.value.data.toList = true
  ht : T.all (plainB · true) = true
  hl : (lenGo (valuesL T nLen) 0 (-1)).2 = true
  cm : nameS true m.data.toList = true
  cs : s.data.toList = tHttp ∨ s.data.toList = tHttps
  cp : Lib.hasPrefix p.data.toList [47] = true ∨ (p.data.toList = [42] ∧ m.data.toList = tOpt)
  ce : en = false ∨ (lenGo (valuesL T nLen) 0 (-1)).1 ≤ 0
def goodR2 (H T : List Fld) (m s p : ByteArray) : Rd := ⟨m, s, p, hostV (valuesL H nAuth ++ valuesL T nHost), (lenGo (valuesL T nLen) 0 (-1)).1, rankV (valuesL T nPrio), hostV (valuesL T nHost)⟩
theorem good_two {L : List Fld} {en : Bool} {m s p : ByteArray} : Good L en m s p ↔ Good2 (L.take (frontN L)) (L.drop (frontN L)) en m s p :=
  ⟨fun ⟨a1, a2, a3, a4, a5, a6, a7, a8, a9, b1, b2⟩ => ⟨a1, a2, a3, a4, a5, a6, a7, a8, a9, b1, b2⟩, fun ⟨a1, a2, a3, a4, a5, a6, a7, a8, a9, b1, b2⟩ => ⟨a1, a2, a3, a4, a5, a6, a7, a8, a9, b1, b2⟩⟩
theorem two_good {H T : List Fld} (hH : H.all colonB = true) (hT : ∀ f, T.head? = some f → colonB f = false) {en : Bool} {m s p : ByteArray} : Good (H ++ T) en m s p ↔ Good2 H T en m s p := by
  obtain ⟨h1, h2⟩ := front_parts hH hT
  rw [good_two, h1, h2]
theorem two_goodR {H T : List Fld} (hH : H.all colonB = true) (hT : ∀ f, T.head? = some f → colonB f = false) {m s p : ByteArray} : goodR (H ++ T) m s p = goodR2 H T m s p := by
  obtain ⟨h1, h2⟩ := front_parts hH hT
  unfold goodR goodR2
  rw [h1, h2]
theorem valuesL_perm {A B : List Fld} (h : A.Perm B) (l : List UInt8) : (valuesL A l).Perm (valuesL B l) := by
  unfold valuesL
  exact (h.filter _).map _
theorem perm_one {α : Type} {A B : List α} (h : A.Perm B) (hA : A.length ≤ 1) : A = B := by
  match A, hA with
  | [], _ => exact (List.perm_nil.1 h.symm).symm
  | [x], _ => exact (List.perm_singleton.1 h.symm).symm
theorem good2_perm {A B T : List Fld} (h : A.Perm B) {en : Bool} {m s p : ByteArray} (G : Good2 A T en m s p) : Good2 B T en m s p ∧ goodR2 A T m s p = goodR2 B T m s p := by
  have e1 := perm_one (valuesL_perm h nMethod) (by rw [G.hm]; simp)
  have e2 := perm_one (valuesL_perm h nScheme) (by rw [G.hs]; simp)
  have e3 := perm_one (valuesL_perm h nPath) (by rw [G.hp]; simp)
  have e4 := perm_one (valuesL_perm h nAuth) G.ha
  refine ⟨⟨e1 ▸ G.hm, e2 ▸ G.hs, e3 ▸ G.hp, e4 ▸ G.ha, fun f hf => G.hv f (h.mem_iff.2 hf), G.ht, G.hl, G.cm, G.cs, G.cp, G.ce⟩, ?_⟩
  unfold goodR2
  rw [e4]
theorem all_perm {A B : List Fld} (h : A.Perm B) (hA : A.all colonB = true) : B.all colonB = true :=
  List.all_eq_true.2 fun x hx => List.all_eq_true.1 hA x (h.mem_iff.2 hx)
/-- It is nothing in which order the fields stand in front. -/
theorem order_law {A B T : List Fld} (h : A.Perm B) (hA : A.all colonB = true) (hT : ∀ f, T.head? = some f → colonB f = false) (en : Bool) :
    reqV (readS (A ++ T) en) = reqV (readS (B ++ T) en) ∧ (readS (A ++ T) en).isSome = (readS (B ++ T) en).isSome := by
  have aux : ∀ {A B : List Fld}, A.Perm B → A.all colonB = true → (readS (A ++ T) en).isSome = true → reqV (readS (A ++ T) en) = reqV (readS (B ++ T) en) ∧ (readS (B ++ T) en).isSome = true := by
    intro A B h hA hs
    obtain ⟨m, s, p, G⟩ := readS_is hs
    obtain ⟨G2, hr⟩ := good2_perm h ((two_good hA hT).1 G)
    have G3 := (two_good (all_perm h hA) hT).2 G2
    refine ⟨?_, (readS_good G3).2⟩
    rw [(readS_good G).1, (readS_good G3).1, two_goodR hA hT, two_goodR (all_perm h hA) hT, hr]
  cases h1 : (readS (A ++ T) en).isSome with
  | true =>
    obtain ⟨e1, e2⟩ := aux h hA h1
    exact ⟨e1, e2.symm⟩
  | false =>
    cases h2 : (readS (B ++ T) en).isSome with
    | true =>
      obtain ⟨_, e2⟩ := aux h.symm (all_perm h hA) h2
      rw [e2] at h1
      cases h1
    | false =>
      have e1 : readS (A ++ T) en = none := by simpa using h1
      have e2 : readS (B ++ T) en = none := by simpa using h2
      rw [e1, e2]
      exact ⟨rfl, rfl⟩
/-- Fields turned round by t. -/
def rotL (H : List Fld) (t : Nat) : List Fld := H.drop (t % H.length) ++ H.take (t % H.length)
theorem rotL_perm (H : List Fld) (t : Nat) : H.Perm (rotL H t) := by
  unfold rotL
  have := (List.perm_append_comm (l₁ := H.take (t % H.length)) (l₂ := H.drop (t % H.length)))
  rwa [List.take_append_drop] at this
theorem rotL_len (H : List Fld) (t : Nat) : (rotL H t).length = H.length := (rotL_perm H t).length_eq.symm
theorem rotL_at (H : List Fld) (t i : Nat) (hi : i < H.length) : (rotL H t)[i]? = H[(i + t) % H.length]? := by
  have hr : t % H.length < H.length := Nat.mod_lt _ (by omega)
  unfold rotL
  have hm : (i + t) % H.length = (i + t % H.length) % H.length := by rw [Nat.add_mod_mod]
  rw [hm]
  generalize t % H.length = r at hr
  by_cases h : i < H.length - r
  · rw [List.getElem?_append_left (by rw [List.length_drop]; exact h), List.getElem?_drop, Nat.mod_eq_of_lt (by omega)]
    congr 1
    omega
  · rw [List.getElem?_append_right (by rw [List.length_drop]; omega), List.length_drop, List.getElem?_take, if_pos (by omega)]
    have : (i + r) % H.length = i + r - H.length := by
      rw [Nat.mod_eq_sub_mod (by omega), Nat.mod_eq_of_lt (by omega)]
    rw [this]
    congr 1
    omega
end Go.Proofs.YtecmccihldjicaaDoor
