/- Reading bits by the tree, in plain words; what New and Built do; the Once in one word for both states of a coder. -/
import Derived.Test.YtmnaljnkgaebkaaHuffY
namespace Go.Proofs.Ytmnaljnkgaebkaa
open Go.RowKit
set_option linter.unusedVariables false
set_option linter.unusedSimpArgs false

/-- Place, bits since the last byte, whether they are ones, what is read. -/
abbrev DSt := Nat × Nat × Bool × List UInt8
def dStep (s : DSt) (b : Nat) : Option DSt :=
  if treeL.getD (s.1 * 2 + b) 0 = 0 then none
  else if treeL.getD (s.1 * 2 + b) 0 < 0 then some (0, 0, true, s.2.2.2 ++ [UInt8.ofNat (-1 - treeL.getD (s.1 * 2 + b) 0).toNat])
  else some ((treeL.getD (s.1 * 2 + b) 0).toNat, s.2.1 + 1, s.2.2.1 && (b == 1), s.2.2.2)
def dRun (s : DSt) : List Nat → Option DSt
  | [] => some s
  | b :: l => (dStep s b).bind fun t => dRun t l
theorem dRun_append (l r : List Nat) (s : DSt) : dRun s (l ++ r) = (dRun s l).bind fun t => dRun t r := by
  induction l generalizing s with
  | nil => rfl
  | cons b l ih =>
    simp only [List.cons_append, dRun]
    cases dStep s b with
    | none => rfl
    | some t => exact ih t
theorem dRun_snoc (l : List Nat) (b : Nat) (s t : DSt) (h : dRun s l = some t) : dRun s (l ++ [b]) = dStep t b := by
  rw [dRun_append, h]
  simp only [Option.bind_some, dRun]
  cases dStep t b <;> rfl
def bytesBits (bs : List Nat) : List Nat := bs.flatMap (bitsN 8)
def d0 : DSt := (0, 0, true, [])
def decL (bs : List Nat) : Option (List UInt8) :=
  match dRun d0 (bytesBits bs) with
  | none => none
  | some (_, o, f, out) => if 8 ≤ o ∨ f = false then none else some out
def inRange (t : List Int) : Bool := t.all fun x => decide (-256 ≤ x) && decide (x < 256)
set_option maxRecDepth 100000 in
theorem treeL_range : inRange treeL = true := by decide +kernel
set_option maxRecDepth 100000 in
theorem treeL_len : treeL.length = 512 := by decide +kernel
theorem tree_in (j : Nat) : -256 ≤ treeL.getD j 0 ∧ treeL.getD j 0 < 256 := by
  by_cases h : j < treeL.length
  · have := List.all_eq_true.1 treeL_range treeL[j] (List.getElem_mem h)
    simp only [Bool.and_eq_true, decide_eq_true_eq] at this
    simpa [List.getD_eq_getElem?_getD, List.getElem?_eq_getElem h] using this
  · simp [List.getD_eq_getElem?_getD, List.getElem?_eq_none (Nat.le_of_not_lt h)]
/-- What holds of what is reached. -/
theorem dStep_in {s t : DSt} {b n : Nat} (h : dStep s b = some t) (h1 : s.2.1 ≤ n) (h2 : s.2.2.2.length ≤ n) : t.1 < 256 ∧ t.2.1 ≤ n + 1 ∧ t.2.2.2.length ≤ n + 1 := by
  unfold dStep at h
  have hr := tree_in (s.1 * 2 + b)
  generalize treeL.getD (s.1 * 2 + b) 0 = x at h hr
  split at h
  · cases h
  · split at h
    · obtain rfl := Option.some.inj h
      exact ⟨by simp, by simp, by simp; omega⟩
    · obtain rfl := Option.some.inj h
      exact ⟨by simp only; omega, by simp only; omega, by simp only; omega⟩
theorem dRun_in (l : List Nat) : ∀ (s t : DSt) (n : Nat), dRun s l = some t → s.1 < 256 → s.2.1 ≤ n → s.2.2.2.length ≤ n → t.1 < 256 ∧ t.2.1 ≤ n + l.length ∧ t.2.2.2.length ≤ n + l.length := by
  induction l with
  | nil => intro s t n h h0 h1 h2; obtain rfl := Option.some.inj h; exact ⟨h0, h1, h2⟩
  | cons b l ih =>
    intro s t n h h0 h1 h2
    simp only [dRun] at h
    cases hs : dStep s b with
    | none => rw [hs] at h; cases h
    | some u =>
      rw [hs] at h
      obtain ⟨u0, u1, u2⟩ := dStep_in hs h1 h2
      have := ih u t (n + 1) h u0 u1 u2
      simp only [List.length_cons]
      omega
theorem dRun_d0 {l : List Nat} {t : DSt} (h : dRun d0 l = some t) : t.1 < 256 ∧ t.2.1 ≤ l.length ∧ t.2.2.2.length ≤ l.length := by
  have := dRun_in l d0 t 0 h (by decide) (by decide) (by decide)
  omega
theorem bytesBits_append (a b : List Nat) : bytesBits (a ++ b) = bytesBits a ++ bytesBits b := by simp [bytesBits]
theorem bytesBits_take (bs : List Nat) (k : Nat) (h : k < bs.length) : bytesBits (bs.take (k + 1)) = bytesBits (bs.take k) ++ bitsN 8 (bs.getD k 0) := by
  rw [List.take_succ_eq_append_getElem h, bytesBits_append]
  simp [bytesBits, List.getD_eq_getElem?_getD, List.getElem?_eq_getElem h]
theorem bytesBits_len (bs : List Nat) : (bytesBits bs).length = 8 * bs.length := by
  induction bs with
  | nil => rfl
  | cons b l ih =>
    have : bytesBits (b :: l) = bitsN 8 b ++ bytesBits l := by simp [bytesBits]
    rw [this, List.length_append, bitsN_len, ih, List.length_cons]; omega
/-- A stop on the way is a stop of the whole. -/
theorem decL_stop (bs : List Nat) (k j : Nat) (hk : k < bs.length) (hj : j ≤ 8) (h : dRun d0 (bytesBits (bs.take k) ++ (bitsN 8 (bs.getD k 0)).take j) = none) : decL bs = none := by
  have e : bytesBits bs = (bytesBits (bs.take k) ++ (bitsN 8 (bs.getD k 0)).take j) ++ ((bitsN 8 (bs.getD k 0)).drop j ++ bytesBits (bs.drop (k + 1))) := by
    rw [← List.append_assoc, List.append_assoc (bytesBits (bs.take k)), List.take_append_drop, ← bytesBits_take bs k hk, ← bytesBits_append, List.take_append_drop]
  unfold decL
  rw [e, dRun_append, h]
  rfl

/-- A coder whose tree stands. -/
def Done (p : Nat) (W : World) (bt : Int) : Prop := ∃ tv B, p < B ∧ CRow p W 1 0 tv bt ∧ TreeV W B tv treeL
/-- A coder that is new, or whose tree stands. -/
def Ready (p : Nat) (W : World) : Prop := (∃ tv, CRow p W 0 0 tv 0) ∨ Done p W 1
theorem Done.below {p : Nat} {W W' : World} {bt : Int} (h : Done p W bt) (hb : Below W.heap.size W W') : Done p W' bt := by
  obtain ⟨tv, B, h1, h2, h3⟩ := h
  exact ⟨tv, B, h1, h2.step (hb.block p h2.lt), h3.step (fun k _ hk => hb.block k hk)⟩
theorem Done.lt {p : Nat} {W : World} {bt : Int} (h : Done p W bt) : p < W.heap.size := by
  obtain ⟨tv, B, h1, h2, h3⟩ := h
  exact h2.lt
theorem Ready.lt {p : Nat} {W : World} (h : Ready p W) : p < W.heap.size := h.elim (fun ⟨_, h⟩ => h.lt) Done.lt
theorem Ready.below {p : Nat} {W W' : World} (h : Ready p W) (hb : Below W.heap.size W W') : Ready p W' :=
  h.imp (fun ⟨tv, h⟩ => ⟨tv, h.step (hb.block p h.lt)⟩) (fun h => h.below hb)
theorem do_any (p : Nat) (w : World) (h : Ready p w) :
    Calls Try.prog 59 #[.pointer (some ⟨p, 0, none⟩), .func (.func 60) #[.pointer (some ⟨p, 0, none⟩)] #[]] w fun e w' => e = .returned (.tuple #[]) ∧ Done p w' 1 ∧ Near p w.heap.size w w' := by
  have hlt := h.lt
  rcases h with ⟨tv, h⟩ | ⟨tv, B, h1, h2, h3⟩
  · refine (do_first p 0 (by decide) tv w h).mono ?_
    rintro e w' ⟨rfl, tv2, hR, hT, hN⟩
    exact ⟨rfl, ⟨tv2, w.heap.size, hlt, hR, hT⟩, hN⟩
  · refine (do_done p 1 tv _ w h2).mono ?_
    rintro e w' ⟨rfl, rfl⟩
    exact ⟨rfl, ⟨tv, B, h1, h2, h3⟩, Near.refl _ _ _⟩

/-- New: a coder of its own. -/
theorem new_any (w : World) : Calls Try.prog 21 #[] w fun e w' => e = .returned (.pointer (some ⟨w.heap.size, 0, none⟩)) ∧ Below w.heap.size w w' ∧ CRow w.heap.size w' 0 0 (.slice none 0 0) 0 := by
  go_enter Try.func21, Try.ntmps21
  go_wp2_with fail
  go_ret
  exact ⟨rfl, (Below.refl _ _).alloc (Nat.le_refl _) _, heap_alloc_new w _⟩
/-- Built, of a coder, and of none. -/
theorem built_any (p : Nat) (bt : Int) (w : World) (h : Done p w bt) : Calls Try.prog 24 #[.pointer (some ⟨p, 0, none⟩)] w fun e w' => e = .returned (.int .i64 bt) ∧ w' = w := by
  obtain ⟨tv, B, h1, h2, h3⟩ := h
  have hc := h2.cell.2.2.2.2
  clear h2 h3
  go_enter Try.func24, Try.ntmps24
  go_wp2_with fail
  go_ret
  exact ⟨rfl, rfl⟩
theorem built_fresh (p : Nat) (tv : Value) (w : World) (h : CRow p w 0 0 tv 0) : Calls Try.prog 24 #[.pointer (some ⟨p, 0, none⟩)] w fun e w' => e = .returned (.int .i64 0) ∧ w' = w := by
  have hc := h.cell.2.2.2.2
  clear h
  go_enter Try.func24, Try.ntmps24
  go_wp2_with fail
  go_ret
  exact ⟨rfl, rfl⟩
theorem built_none (w : World) : Calls Try.prog 24 #[.pointer none] w fun e w' => e = .returned (.int .i64 0) ∧ w' = w := by
  go_enter Try.func24, Try.ntmps24
  go_wp2_with fail
  go_ret
  exact ⟨rfl, rfl⟩
end Go.Proofs.Ytmnaljnkgaebkaa
