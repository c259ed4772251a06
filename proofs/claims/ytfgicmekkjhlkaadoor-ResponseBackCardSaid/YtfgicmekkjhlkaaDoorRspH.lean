/- response.Read. -/
import Derived.Test.YtfgicmekkjhlkaaDoorRspG
namespace Go.Proofs.YtfgicmekkjhlkaaDoor
open Go.RowKit
set_option linter.unusedVariables false
set_option linter.unusedSimpArgs false

theorem hasPrefix_head (s : ByteArray) : Lib.hasPrefix s.data.toList [58] = headC s := by
  unfold Lib.hasPrefix headC
  cases s.data.toList with
  | nil => rfl
  | cons c l =>
    simp only [List.isPrefixOf, Bool.and_true]
    by_cases h : c = 58
    · subst h; rfl
    · rw [beq_eq_false_iff_ne.2 (fun e => h e.symm)]
      symm
      rw [decide_eq_false_iff_not]
      intro e
      exact h (byte_eq (by rw [e]; rfl))
def lastI (V : List ByteArray) : Int := match V.getLast? with
  | none => 0
  | some v => numI v.data.toList
def okV (V : List ByteArray) : Bool := V.all fun v => numOk v.data.toList
def okR (a : Bool) (M : List Fld) : Bool := a && !(M.any fun g => headC g.name) && okV (valsF clS M) && okV (valsF raS M)
def isR (x : Fld) : Bool := if headC x.name = true then false else if isN clS x = true then numOk x.value.data.toList else if isN raS x = true then numOk x.value.data.toList else true
theorem lastI_snoc (V : List ByteArray) (v : ByteArray) : lastI (V ++ [v]) = numI v.data.toList := by simp [lastI]
theorem isN_eq {nm : ByteArray} {x : Fld} (h : isN nm x = true) : x.name.toList = nm.toList := by unfold isN at h; simpa using h
theorem cl_head {x : Fld} (h : isN clS x = true) : headC x.name = false := by
  have e := isN_eq h
  unfold headC
  rw [← tl, e]
  decide +kernel
theorem ra_head {x : Fld} (h : isN raS x = true) : headC x.name = false ∧ isN clS x = false := by
  have e := isN_eq h
  constructor
  · unfold headC
    rw [← tl, e]
    decide +kernel
  · unfold isN
    rw [e]
    decide +kernel
theorem okR_snoc (a : Bool) (M : List Fld) (x : Fld) : okR a (M ++ [x]) = (okR a M && isR x) := by
  unfold okR isR
  rw [List.any_append]
  cases hh : headC x.name
  · cases hc : isN clS x
    · cases hr : isN raS x
      · rw [valsF_no hc, valsF_no hr]
        simp [hh]
      · rw [valsF_no hc, valsF_yes hr]
        unfold okV
        rw [List.all_append]
        simp [hh, Bool.and_assoc]
    · have hr : isN raS x = false := by
        cases h : isN raS x
        · rfl
        · exact absurd hc (by rw [(ra_head h).2]; simp)
      rw [valsF_yes hc, valsF_no hr]
      unfold okV
      rw [List.all_append]
      simp only [hh, List.any_cons, List.any_nil, Bool.or_false, List.all_cons, List.all_nil, Bool.and_true, if_true, Bool.false_eq_true, if_false]
      cases a <;> cases (M.any fun g => headC g.name) <;> cases ((valsF clS M).all fun v => numOk v.data.toList) <;> cases ((valsF raS M).all fun v => numOk v.data.toList) <;> cases (numOk x.value.data.toList) <;> rfl
  · simp [hh]
theorem readR_eq (f : Fld) (M : List Fld) (h1 : (f.name.toList == stS.toList) = true) (h3 : f.value.size = 3) :
    readR (f :: M) = if okR (numOk f.value.data.toList) M = false ∨ 1 < (valsF clS M).length ∨ 1 < (valsF raS M).length ∨ ¬ (100 ≤ numI f.value.data.toList ∧ numI f.value.data.toList ≤ 599) then badR
      else ((numI f.value.data.toList, lastI (valsF clS M), lastI (valsF raS M)), true) := by
  have e1 : f.name.toList = stS.toList := by simpa using h1
  have n1 : isN clS f = false := by unfold isN; rw [e1]; decide +kernel
  have n2 : isN raS f = false := by unfold isN; rw [e1]; decide +kernel
  have v1 : valsF clS (f :: M) = valsF clS M := by simp [valsF, n1]
  have v2 : valsF raS (f :: M) = valsF raS M := by simp [valsF, n2]
  have e : readR (f :: M) = if M.any (fun g => headC g.name) = true then badR else tailR (numOk f.value.data.toList) (numI f.value.data.toList) (oneF (valsF clS (f :: M))) (oneF (valsF raS (f :: M))) := if_neg (by rw [h1]; simp [h3])
  rw [e, v1, v2]
  generalize numOk f.value.data.toList = a
  generalize numI f.value.data.toList = s
  unfold okR
  generalize valsF clS M = V1
  generalize valsF raS M = V2
  by_cases hp : M.any (fun g => headC g.name) = true
  · rw [if_pos hp, if_pos (by rw [hp]; simp)]
  rw [if_neg hp]
  have hp' : M.any (fun g => headC g.name) = false := by simpa using hp
  rw [hp']
  have two : ∀ (a b : ByteArray) (t : List ByteArray), oneF (a :: b :: t) = (0, false) := fun _ _ _ => rfl
  unfold tailR
  by_cases hs : 100 ≤ s ∧ s ≤ 599
  · cases a
    · rw [if_pos (.inl rfl), if_pos (.inl (by simp))]
    cases V1 with
    | nil => 
      cases V2 with
      | nil => rw [if_neg (by simp [oneF]; omega), if_neg (by simp [okV]; omega)]; rfl
      | cons y t =>
        cases t with
        | nil =>
          cases hy : numOk y.data.toList
          · rw [if_pos (by simp [oneF, hy]), if_pos (by simp [okV, hy])]
          · rw [if_neg (by simp [oneF, hy]; omega), if_neg (by simp [okV, hy]; omega)]; rfl
        | cons z t => rw [if_pos (by simp [two]), if_pos (by simp)]
    | cons x t =>
      cases t with
      | nil =>
        cases hx : numOk x.data.toList
        · rw [if_pos (by simp [oneF, hx]), if_pos (by simp [okV, hx])]
        · cases V2 with
          | nil => rw [if_neg (by simp [oneF, hx]; omega), if_neg (by simp [okV, hx]; omega)]; rfl
          | cons y t =>
            cases t with
            | nil =>
              cases hy : numOk y.data.toList
              · rw [if_pos (by simp [oneF, hy]), if_pos (by simp [okV, hy])]
              · rw [if_neg (by simp [oneF, hx, hy]; omega), if_neg (by simp [okV, hx, hy]; omega)]; rfl
            | cons z t => rw [if_pos (by simp [two]), if_pos (by simp)]
      | cons z t => rw [if_pos (by simp [two]), if_pos (by simp)]
  · rw [if_pos (by omega), if_pos (.inr (.inr (.inr hs)))]
#print axioms readR_eq
end Go.Proofs.YtfgicmekkjhlkaaDoor
