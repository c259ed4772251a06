/- SplL · CoP · CfJ · CfLd · EyCh: joined by a program, for a claim has at most 60 files. -/
import Derived.Test.YtdflkikhmngfiaaGreatDoorZ27
import Derived.Lib.SplitLaws
import Derived.Lib.IndexMore
import Derived.Test.YtdflkikhmngfiaaGreatDoorZ22
import Derived.Test.YtdflkikhmngfiaaGreatDoorZ25
import Derived.Test.YtdflkikhmngfiaaGreatDoorZ29
import Derived.Test.YtdflkikhmngfiaaGreatDoorZ28
import Derived.Test.YtdflkikhmngfiaaGreatDoorRows
import Derived.LaidMore
import Derived.Lib.LaidTab
import Derived.Stop.LaidErr
import Derived.HandedShaped
import Derived.Handed
/- Texts cut, split and joined, in plain words (out of the texts of Query: QryE, QryP, QryR; a seat imports either these or this one). -/
namespace Go.Proofs.YtdflkikhmngfiaaGreatDoor
open Go.RowKit
set_option linter.unusedVariables false
set_option linter.unusedSimpArgs false

theorem splitB_le (sep : ByteArray) : ∀ (k : Nat) (s : ByteArray), ∀ x ∈ Lib.splitB sep 0 k s, x.size ≤ s.size
  | 0, s, x, hx => by simp [Lib.splitB] at hx; subst hx; exact Nat.le_refl _
  | k + 1, s, x, hx => by
    unfold Lib.splitB at hx
    split at hx
    · simp at hx; subst hx; exact Nat.le_refl _
    · rcases List.mem_cons.1 hx with rfl | h
      · rw [ByteArray.size_extract]; omega
      · have := splitB_le sep k _ x h
        rw [ByteArray.size_extract] at this
        omega
def partsS (s : ByteArray) (c : UInt8) : List ByteArray := Lib.splitB ⟨#[c]⟩ 0 (Lib.countB s ⟨#[c]⟩) s
theorem partsS_len (s : ByteArray) (c : UInt8) : (partsS s c).length = Lib.countB s ⟨#[c]⟩ + 1 := Lib.splitB_all ⟨#[c]⟩ (Nat.le_refl 1) 0 _ s rfl
theorem partsS_count (s : ByteArray) (c : UInt8) : (partsS s c).length ≤ s.size + 1 := by
  rw [partsS_len]
  have := Lib.countB_le ⟨#[c]⟩ (Nat.le_refl 1) s.size s (Nat.le_refl _)
  omega
theorem partsS_le (s : ByteArray) (c : UInt8) : ∀ x ∈ partsS s c, x.size ≤ s.size := splitB_le _ _ _
def cutL (c : UInt8) : List UInt8 → List UInt8 × List UInt8 × Bool
  | [] => ([], [], false)
  | b :: l => if b = c then ([], l, true) else (b :: (cutL c l).1, (cutL c l).2.1, (cutL c l).2.2)
def splL (c : UInt8) : List UInt8 → List (List UInt8)
  | [] => [[]]
  | b :: l => if b = c then [] :: splL c l else (match splL c l with | [] => [[b]] | x :: r => (b :: x) :: r)
def joinL (c : UInt8) : List (List UInt8) → List UInt8
  | [] => []
  | [x] => x
  | x :: y :: r => x ++ c :: joinL c (y :: r)
theorem cutL_cons (c b : UInt8) (l : List UInt8) : cutL c (b :: l) = if b = c then ([], l, true) else (b :: (cutL c l).1, (cutL c l).2.1, (cutL c l).2.2) := rfl
theorem splL_cons (c b : UInt8) (l : List UInt8) : splL c (b :: l) = if b = c then [] :: splL c l else (match splL c l with | [] => [[b]] | x :: r => (b :: x) :: r) := rfl
theorem splL_ne (c : UInt8) : ∀ l, splL c l ≠ []
  | [] => by simp [splL]
  | b :: l => by
    unfold splL
    split
    · simp
    · split <;> simp
theorem cutL_hit (c : UInt8) : ∀ l, (cutL c l).2.2 = true → splL c l = (cutL c l).1 :: splL c (cutL c l).2.1
  | [], h => by simp [cutL] at h
  | b :: l, h => by
    rw [cutL_cons] at h ⊢
    rw [splL_cons]
    by_cases e : b = c
    · rw [if_pos e, if_pos e]
    · rw [if_neg e] at h ⊢
      rw [if_neg e]
      simp only at h ⊢
      rw [cutL_hit c l h]
theorem cutL_miss (c : UInt8) : ∀ l, (cutL c l).2.2 = false → splL c l = [l] ∧ (cutL c l).1 = l ∧ (cutL c l).2.1 = []
  | [], h => ⟨rfl, rfl, rfl⟩
  | b :: l, h => by
    unfold cutL at h ⊢
    unfold splL
    by_cases e : b = c
    · rw [if_pos e] at h; cases h
    · rw [if_neg e] at h ⊢
      rw [if_neg e]
      simp only at h ⊢
      obtain ⟨h1, h2, h3⟩ := cutL_miss c l h
      rw [h1, h2, h3]
      exact ⟨rfl, rfl, rfl⟩
theorem cutL_no (c : UInt8) : ∀ l, c ∉ (cutL c l).1
  | [] => by simp [cutL]
  | b :: l => by
    unfold cutL
    by_cases e : b = c
    · rw [if_pos e]; simp
    · rw [if_neg e]
      simp only [List.mem_cons, not_or]
      exact ⟨fun h => e h.symm, cutL_no c l⟩
theorem cutL_app (c : UInt8) (b : List UInt8) : ∀ a, c ∉ a → cutL c (a ++ c :: b) = (a, b, true)
  | [], _ => by simp [cutL]
  | x :: a, h => by
    simp only [List.mem_cons, not_or] at h
    rw [List.cons_append]
    unfold cutL
    rw [if_neg (fun e => h.1 e.symm), cutL_app c b a h.2]
theorem cutL_none (c : UInt8) : ∀ a, c ∉ a → cutL c a = (a, [], false)
  | [], _ => rfl
  | x :: a, h => by
    simp only [List.mem_cons, not_or] at h
    unfold cutL
    rw [if_neg (fun e => h.1 e.symm), cutL_none c a h.2]
theorem cutL_mem (c : UInt8) : ∀ l x, x ∈ (cutL c l).1 → x ∈ l
  | [], x, h => by simp [cutL] at h
  | b :: l, x, h => by
    unfold cutL at h
    by_cases e : b = c
    · rw [if_pos e] at h; simp at h
    · rw [if_neg e] at h
      rcases List.mem_cons.1 h with h | h
      · exact List.mem_cons.2 (.inl h)
      · exact List.mem_cons.2 (.inr (cutL_mem c l x h))
theorem cutL_len (c : UInt8) : ∀ l, (cutL c l).2.2 = true → (cutL c l).2.1.length < l.length
  | [], h => by simp [cutL] at h
  | b :: l, h => by
    unfold cutL at h ⊢
    by_cases e : b = c
    · rw [if_pos e]; simp
    · rw [if_neg e] at h ⊢
      have := cutL_len c l h
      simp only [List.length_cons]
      omega
theorem index_cut (c : UInt8) : ∀ l : List UInt8, ((cutL c l).2.2 = false → Lib.index l [c] = -1) ∧ ((cutL c l).2.2 = true → Lib.index l [c] = ((cutL c l).1.length : Int) ∧ (cutL c l).1 = l.take (cutL c l).1.length ∧ (cutL c l).2.1 = l.drop ((cutL c l).1.length + 1))
  | [] => ⟨fun _ => rfl, fun h => by simp [cutL] at h⟩
  | b :: l => by
    obtain ⟨h1, h2⟩ := index_cut c l
    have hp : [c].isPrefixOf (b :: l) = (c == b) := by simp [List.isPrefixOf]
    unfold cutL Lib.index
    rw [hp]
    by_cases e : b = c
    · subst e
      simp
    · have e' : (c == b) = false := beq_eq_false_iff_ne.2 (fun h => e h.symm)
      rw [if_neg e, e']
      simp only
      constructor
      · intro h
        rw [h1 h]
        rfl
      · intro h
        obtain ⟨a1, a2, a3⟩ := h2 h
        have hne : (Lib.index l [c] == -1) = false := beq_eq_false_iff_ne.2 (by omega)
        rw [hne, a1]
        refine ⟨by simp, ?_, ?_⟩
        · rw [List.length_cons, List.take_succ_cons, ← a2]
        · rw [List.length_cons, List.drop_succ_cons]; exact a3
theorem cut_eq (c : UInt8) (l : List UInt8) : Lib.cut l [c] = cutL c l := by
  obtain ⟨h1, h2⟩ := index_cut c l
  unfold Lib.cut
  cases h : (cutL c l).2.2 with
  | false =>
    rw [h1 h, if_neg (by omega)]
    obtain ⟨_, b1, b2⟩ := cutL_miss c l h
    exact Prod.ext b1.symm (Prod.ext b2.symm h.symm)
  | true =>
    obtain ⟨a1, a2, a3⟩ := h2 h
    rw [if_pos (by omega), a1, Int.toNat_natCast]
    exact Prod.ext a2.symm (Prod.ext a3.symm h.symm)
theorem dl_ext (l : List UInt8) (s : ByteArray) (k : Nat) (h : l = s.data.toList) : (s.extract k s.size).data.toList = l.drop k := by rw [Lib.extract_to_end, h]
/-- The library's pieces are the plain ones. -/
theorem parts_eq (c : UInt8) : ∀ (n : Nat) (s : ByteArray), s.size ≤ n → (partsS s c).map (·.data.toList) = splL c s.data.toList := by
  intro n
  induction n with
  | zero =>
    intro s hs
    have hn : s.data.toList = [] := List.eq_nil_of_length_eq_zero (by rw [← sz]; omega)
    have hi : Lib.indexB s ⟨#[c]⟩ = -1 := by
      show Lib.index s.data.toList [c] = -1
      rw [hn]; rfl
    unfold partsS
    rw [Lib.countB_miss s _ hi, Lib.splitB_zero, hn]
    simp [hn, splL]
  | succ n ih =>
    intro s hs
    obtain ⟨h1, h2⟩ := index_cut c s.data.toList
    cases h : (cutL c s.data.toList).2.2 with
    | false =>
      have hi : Lib.indexB s ⟨#[c]⟩ = -1 := h1 h
      unfold partsS
      rw [Lib.countB_miss s _ hi, Lib.splitB_zero, (cutL_miss c _ h).1]
      rfl
    | true =>
      obtain ⟨a1, a2, a3⟩ := h2 h
      have hi : Lib.indexB s ⟨#[c]⟩ = ((cutL c s.data.toList).1.length : Int) := a1
      have hlen := cutL_len c _ h
      have h1s : (ByteArray.mk #[c]).size = 1 := rfl
      have hsz : (s.extract ((cutL c s.data.toList).1.length + 1) s.size).size ≤ n := by
        rw [sz, Lib.extract_to_end, ← a3]
        rw [← sz] at hlen
        omega
      have := ih _ hsz
      unfold partsS at this ⊢
      rw [Lib.countB_hit s ⟨#[c]⟩ _ (Nat.le_refl 1) hi, Nat.add_comm 1, Lib.splitB_hit _ _ _ _ _ hi, List.map_cons, h1s, this, Lib.extract_to_end, ← a3, cutL_hit c _ h]
      congr 1
      rw [Nat.add_zero, Lib.extract_from_zero]
      exact a2.symm
def strL (l : List UInt8) : ByteArray := ⟨l.toArray⟩
def LL (s : ByteArray) : List UInt8 := s.data.toList
theorem LL_strL (l : List UInt8) : LL (strL l) = l := by unfold LL strL; simp
theorem strL_LL (s : ByteArray) : strL (LL s) = s := by unfold LL strL; simp
theorem LL_inj {s t : ByteArray} (h : LL s = LL t) : s = t := by rw [← strL_LL s, ← strL_LL t, h]
theorem LL_app (s t : ByteArray) : LL (s ++ t) = LL s ++ LL t := by unfold LL; simp
theorem LL_len (s : ByteArray) : (LL s).length = s.size := (sz s).symm
theorem spl_no (c : UInt8) (x : List UInt8) (h : c ∉ x) : splL c x = [x] := (cutL_miss c x (by rw [cutL_none c x h])).1
theorem spl_join (c : UInt8) : ∀ ls : List (List UInt8), ls ≠ [] → (∀ x ∈ ls, c ∉ x) → splL c (joinL c ls) = ls
  | [], h, _ => absurd rfl h
  | [x], _, hx => spl_no c x (hx x (by simp))
  | x :: y :: r, _, hx => by
    have h1 := cutL_app c (joinL c (y :: r)) x (hx x (by simp))
    have h2 := cutL_hit c (x ++ c :: joinL c (y :: r)) (by rw [h1])
    rw [h1] at h2
    show splL c (x ++ c :: joinL c (y :: r)) = _
    rw [h2]
    simp only
    rw [spl_join c (y :: r) (by simp) (fun z hz => hx z (List.mem_cons_of_mem _ hz))]
theorem spl_mem (c : UInt8) : ∀ (l : List UInt8), ∀ x ∈ splL c l, c ∉ x ∧ ∀ b ∈ x, b ∈ l
  | [], x, h => by simp [splL] at h; subst h; simp
  | b :: l, x, h => by
    rw [splL_cons] at h
    by_cases e : b = c
    · rw [if_pos e] at h
      rcases List.mem_cons.1 h with h | h
      · subst h; simp
      · obtain ⟨h1, h2⟩ := spl_mem c l x h
        exact ⟨h1, fun y hy => List.mem_cons_of_mem _ (h2 y hy)⟩
    · rw [if_neg e] at h
      have ih := spl_mem c l
      cases hs : splL c l with
      | nil => exact absurd hs (splL_ne c l)
      | cons y r =>
        rw [hs] at h ih
        simp only at h
        rcases List.mem_cons.1 h with h | h
        · subst h
          obtain ⟨h1, h2⟩ := ih y (by simp)
          constructor
          · simp only [List.mem_cons, not_or]; exact ⟨fun e2 => e e2.symm, h1⟩
          · intro z hz
            rcases List.mem_cons.1 hz with h | h
            · exact List.mem_cons.2 (.inl h)
            · exact List.mem_cons.2 (.inr (h2 z h))
        · obtain ⟨h1, h2⟩ := ih x (List.mem_cons_of_mem _ h)
          exact ⟨h1, fun y hy => List.mem_cons_of_mem _ (h2 y hy)⟩
theorem parts_LL (s : ByteArray) (c : UInt8) : (partsS s c).map LL = splL c (LL s) := parts_eq c s.size s (Nat.le_refl _)
end Go.Proofs.YtdflkikhmngfiaaGreatDoor


/- Words of a line, in plain words. -/
namespace Go.Proofs.YtdflkikhmngfiaaGreatDoor
open Go.RowKit
set_option linter.unusedVariables false
set_option linter.unusedSimpArgs false

/-- What stands between blanks. -/
def wdL (l : List UInt8) : List (List UInt8) := (splL 32 l).filter fun x => !x.isEmpty
/-- The same, sign by sign: the word so far, and the rest. -/
def wdA : List UInt8 → List UInt8 → List (List UInt8)
  | w, [] => if w.isEmpty then [] else [w]
  | w, b :: l => if b = 32 then (if w.isEmpty then wdA [] l else w :: wdA [] l) else wdA (w ++ [b]) l
theorem wdA_eq : ∀ (l w : List UInt8), wdA w l = (match splL 32 l with | [] => [] | x :: r => (w ++ x) :: r).filter fun x => !x.isEmpty
  | [], w => by
    show (if w.isEmpty then [] else [w]) = ([w ++ []] : List (List UInt8)).filter fun x => !x.isEmpty
    rw [List.append_nil]
    cases h : w.isEmpty <;> simp [h]
  | b :: l, w => by
    rw [splL_cons]
    by_cases hb : b = 32
    · rw [if_pos hb]
      show (if b = 32 then (if w.isEmpty then wdA [] l else w :: wdA [] l) else wdA (w ++ [b]) l) = _
      rw [if_pos hb, wdA_eq l []]
      have hn := splL_ne 32 l
      cases hs : splL 32 l with
      | nil => exact absurd hs hn
      | cons x r => cases h : w.isEmpty <;> simp [h]
    · rw [if_neg hb]
      show (if b = 32 then (if w.isEmpty then wdA [] l else w :: wdA [] l) else wdA (w ++ [b]) l) = _
      rw [if_neg hb, wdA_eq l (w ++ [b])]
      have hn := splL_ne 32 l
      cases hs : splL 32 l with
      | nil => exact absurd hs hn
      | cons x r => simp
theorem wdA_wdL (l : List UInt8) : wdA [] l = wdL l := by
  rw [wdA_eq, wdL]
  have hn := splL_ne 32 l
  cases hs : splL 32 l with
  | nil => exact absurd hs hn
  | cons x r => simp
/-- Words with blanks between are read back. -/
theorem wdL_join (ls : List (List UInt8)) (h0 : ls ≠ []) (h : ∀ x ∈ ls, x ≠ [] ∧ (32 : UInt8) ∉ x) (hj : splL 32 (joinL 32 ls) = ls) : wdL (joinL 32 ls) = ls := by
  unfold wdL
  rw [hj]
  apply List.filter_eq_self.2
  intro x hx
  have := (h x hx).1
  cases x with
  | nil => exact absurd rfl this
  | cons _ _ => rfl
end Go.Proofs.YtdflkikhmngfiaaGreatDoor


/- What stands behind numbers of functions; the library's by contract; words in plain Lean. -/
namespace Go.Proofs.YtdflkikhmngfiaaGreatDoor
open Go.RowKit
set_option linter.unusedVariables false
set_option linter.unusedSimpArgs false
set_option linter.unusedSectionVars false

/-- A line's words: cut at the sign, split at blanks, none empty. -/
def wordsB (s : ByteArray) : List ByteArray := (partsS (strL (cutL 35 (LL s)).1) 32).filter fun x => decide (x ≠ ⟨#[]⟩)
def cutP (a b : ByteArray) : PV := .tup [.str ⟨(Lib.cut a.data.toList b.data.toList).1.toArray⟩, .str ⟨(Lib.cut a.data.toList b.data.toList).2.1.toArray⟩, .bool (Lib.cut a.data.toList b.data.toList).2.2]
def splitP (a b : ByteArray) : PV := .lst ((Lib.splitB b 0 (Lib.countB a b) a).map PV.str)
/-- The library's variable on lengths, below a block. -/
def MaxB (B : Nat) (w : World) : Prop := 0 < B ∧ ∃ m : Int, w.cell? ⟨0, 0, none⟩ = some (.int .i64 m)
theorem MaxB.up {B B' : Nat} {w : World} (hB : B ≤ B') (h : MaxB B w) : MaxB B' w := ⟨Nat.lt_of_lt_of_le h.1 hB, h.2⟩
theorem MaxB.keep {B : Nat} {w w' : World} (h : MaxB B w) (hb : Below B w w') : MaxB B w' := by
  obtain ⟨h1, m, h2⟩ := h
  exact ⟨h1, m, (hb.cell (p := ⟨0, 0, none⟩) h1).trans h2⟩
def CfInv (B : Nat) (w : World) : Prop := TabB B w ∧ MaxB B w
theorem CfInv.up {B B' : Nat} {w : World} (hB : B ≤ B') (h : CfInv B w) : CfInv B' w := ⟨TabB.up hB h.1, MaxB.up hB h.2⟩
theorem CfInv.keep {B : Nat} {w w' : World} (h : CfInv B w) (hb : Below B w w') : CfInv B w' := ⟨h.1.keep hb, h.2.keep hb⟩
/-- The functions' numbers. -/
structure CfS (S : Sy) : Prop where
  cut : ∀ a b, S.fn 1 [a, b] = cutP a.s b.s
  cutpre : ∀ a b, S.fn 31 [a, b] = .bool (decide (a.s.size < 4294967281))
  split : ∀ a b, S.fn 2 [a, b] = splitP a.s b.s
  splitpre : ∀ a b, S.fn 32 [a, b] = .bool (decide (a.s.size < 4294967281 ∧ 1 ≤ b.s.size))
  words : ∀ a, S.fn 3 [a] = .lst ((wordsB a.s).map PV.str)
  wordspre : ∀ a, S.fn 33 [a] = .bool (decide (a.s.size ≤ 60000))
  inv : ∀ B w, S.inv B w → CfInv B w
theorem args1 {F : Fz} {t1 : Tm} {ps : List PV} {vs : Array Value} (h : argsOK F [t1] ps vs.toList) : ∃ a x, ps = [a] ∧ vs = #[x] ∧ t1.rp F a x := by
  obtain ⟨a, ps1, y1, m1, rfl, e1, h1, rfl, rfl⟩ := h
  exact ⟨a, y1, rfl, by rw [← Array.toArray_toList (xs := vs), e1], h1⟩
theorem args2 {F : Fz} {t1 t2 : Tm} {ps : List PV} {vs : Array Value} (h : argsOK F [t1, t2] ps vs.toList) : ∃ a b x y, ps = [a, b] ∧ vs = #[x, y] ∧ t1.rp F a x ∧ t2.rp F b y := by
  obtain ⟨a, ps1, y1, m1, rfl, e1, h1, b, ps2, y2, m2, rfl, rfl, h2, rfl, rfl⟩ := h
  exact ⟨a, b, y1, y2, rfl, by rw [← Array.toArray_toList (xs := vs), e1], h1, h2⟩
theorem str_rp {F : Fz} {a : PV} {x : Value} (h : (Tm.sh .str).rp F a x) : x = .string a.s := by simpa only [Tm.rp, Sh.rp] using h
theorem int_rp {F : Fz} {k : IntKind} {a : PV} {x : Value} (h : (Tm.sh (.int k)).rp F a x) : x = .int k a.i := by simpa only [Tm.rp, Sh.rp] using h
theorem cells_arr {W : World} {b i : Nat} {arr : Array Value} {el : TypeId} {fz : Nat × Nat} {v : Value} (h : W.heap[b]? = some (.cells arr el fz)) (hv : arr[i]? = some v) : W.cell? ⟨b, i, none⟩ = some v := by
  unfold World.cell?
  rw [h]
  exact hv
section
variable [S : Sy]
theorem cut_ok (hS : CfS S) : FnOK Tryz.prog fsCut := by
  refine ⟨fun w vs => MuLone.run_callFunc_enter Tryz.func30 (prog_N _ _ _ Tryz.func30 rfl) rfl vs w, fun F W ps vs hF hi ha hp => ?_⟩
  obtain ⟨a, b, x, y, rfl, rfl, h1, h2⟩ := args2 ha
  obtain rfl := str_rp h1
  obtain rfl := str_rp h2
  have h := hp 31 rfl
  rw [hS.cutpre] at h
  injection h with h
  obtain ⟨_, m, hm⟩ := (hS.inv _ _ hi).2
  refine (Tryz.strings_Cut a.s b.s m W (of_decide_eq_true h) hm).mono ?_
  rintro e w' ⟨rfl, n, rfl⟩
  refine ⟨_, rfl, ?_, below_drewN (Below.refl _ W) n⟩
  show resOK _ [.sh .str, .sh .str, .sh .bool] (S.fn 1 [a, b]) _
  rw [hS.cut]
  exact ⟨_, rfl, _, _, rfl, by simp only [Tm.rp, Sh.rp]; rfl, _, _, rfl, by simp only [Tm.rp, Sh.rp]; rfl, _, _, rfl, by simp only [Tm.rp, Sh.rp]; rfl, rfl⟩
theorem split_ok (hS : CfS S) : FnOK Tryz.prog fsSplit := by
  refine ⟨fun w vs => MuLone.run_callFunc_enter Tryz.func45 (prog_N _ _ _ Tryz.func45 rfl) rfl vs w, fun F W ps vs hF hi ha hp => ?_⟩
  obtain ⟨a, b, x, y, rfl, rfl, h1, h2⟩ := args2 ha
  obtain rfl := str_rp h1
  obtain rfl := str_rp h2
  have h := hp 32 rfl
  rw [hS.splitpre] at h
  injection h with h
  obtain ⟨h3, h4⟩ := of_decide_eq_true h
  obtain ⟨_, m, hm⟩ := (hS.inv _ _ hi).2
  refine (Tryz.strings_Split a.s b.s m W h3 hm h4).mono ?_
  rintro e w' ⟨rfl, rfl⟩
  have hlen : (Lib.splitB b.s 0 (Lib.countB a.s b.s) a.s).length = Lib.countB a.s b.s + 1 := Lib.splitB_all b.s h4 0 _ a.s rfl
  refine ⟨_, rfl, ?_, (Below.refl _ W).alloc (Nat.le_refl _) _⟩
  show resOK _ [.sh (.lst [.str])] (S.fn 2 [a, b]) _
  rw [hS.split]
  show Sh.rp _ (.lst [.str]) (splitP a.s b.s) _
  simp only [Sh.rp]
  have hl : (splitP a.s b.s).l.length = Lib.countB a.s b.s + 1 := by show ((Lib.splitB b.s 0 (Lib.countB a.s b.s) a.s).map PV.str).length = _; rw [List.length_map, hlen]
  refine ⟨_, Lib.countB a.s b.s + 1, by rw [hl], by omega, .inr ⟨W.heap.size, 0, rfl, fun i x hx => ?_⟩⟩
  have hx : ((Lib.splitB b.s 0 (Lib.countB a.s b.s) a.s).map PV.str)[i]? = some x := hx
  rw [List.getElem?_map] at hx
  obtain ⟨u, h5, rfl⟩ := Option.map_eq_some_iff.1 hx
  refine ⟨⟨.string u, ?_, rfl⟩, trivial⟩
  show growF F W _ W.heap.size (0 + i * 1 + 0) = _
  unfold growF
  rw [if_pos (Nat.le_refl _), show 0 + i * 1 + 0 = i by omega]
  refine cells_arr (heap_alloc_new W _) ?_
  rw [List.getElem?_toArray, List.getElem?_map, h5]
  rfl
end
end Go.Proofs.YtdflkikhmngfiaaGreatDoor


/- What config's rows list: five tables; the world's shape gives the library's variable. -/
namespace Go.Proofs.YtdflkikhmngfiaaGreatDoor
open Go.RowKit
set_option linter.unusedVariables false
set_option linter.unusedSimpArgs false

/-- The library's own variable holds some number. -/
def MaxC (w : World) : Prop := ∃ m : Int, w.cell? ⟨0, 0, none⟩ = some (.int .i64 m)
def laidQ : List (String × DataW Unit) := [("math/bits.deBruijn32tab", Rows.laid_math_bits_deBruijn32tab), ("math/bits.deBruijn64tab", Rows.laid_math_bits_deBruijn64tab), ("internal/strconv.uint64pow10", Rows.laid_internal_strconv_uint64pow10), ("unicode/utf8.acceptRanges", Rows.laid_unicode_utf8_acceptRanges), ("unicode/utf8.first", Rows.laid_unicode_utf8_first)]
theorem maxC_of {W : World} (h : W.ShapedOpen Tryz.prog) : MaxC W := Tryz.laysM146.s1_3 W h
set_option maxRecDepth 100000 in
theorem tab_of_laid {W : World} (h : laidMetH Tryz.prog laidQ W) : Tab W := by
  rw [MakeChecks.laidMetH_plain _ _ _ (by kernel_rfl)] at h
  have h3 := laidMet.tail (laidMet.tail h)
  exact Lib.tabIs_of_head (k := .u64) (zs := Lib.pow10Tab) (rest := [("unicode/utf8.acceptRanges", Rows.laid_unicode_utf8_acceptRanges), ("unicode/utf8.first", Rows.laid_unicode_utf8_first)]) (show Tryz.prog.globalNamed "internal/strconv.uint64pow10" = some 1 from by kernel_rfl) (show _ = some 134 from by kernel_rfl) Tryz.underlying134 Tryz.underlying116 (by kernel_rfl) (by kernel_rfl) h3
section
variable {H : Type} {enc : TypeId × Value → H}
/-- The wrap that hands on what is laid, and the world's shape. -/
theorem returnsInHanded_of_change_and_shaped {a : Assume} {C : Checked} {os : Os} {f : FuncId} {fn : Func} {s : ChangeSpec} {conds : List PathCond} {apart fresh handsOn again : Bool} {X : World → Array Value → Prop}
    (hX : ∀ (w w' : World) (args : Array Value), w.heap = w'.heap → X w args → X w' args)
    (own : ownKnob C.prog.godebug = none) (started : os.Started) (noInit : C.prog.inits.idxOf? f = none) (hfn : C.prog.funcs[f]? = some fn)
    (witness : ∃ (w : World) (tape : Tape) (i : Input), w.os = os ∧ (w.forCall tape i).Shaped C.prog ∧ i.vars = [] ∧ Input.okWide C.prog (w.forCall tape i) .any w.heap.size f i ∧
      ((s.pre enc C.prog fn conds apart (w.forCall tape i).memory i.args ∧ X (w.forCall tape i).memory i.args) ∧ sizedMet enc C.prog fn (OpenSpec.ofChange s) apart (w.forCall tape i).memory i.args) ∧ a.holds C.prog (lone (Frame.enter C.prog f i.args .normal) [] (w.forCall tape i)))
    (contract : ∀ (W : World) (base : Nat) (args : Array Value) (ds gs : List (DataW H)) (before : List MemPlace),
      (∀ (j : Nat) t v, fn.params[j]? = some t → args[j]? = some v → Value.okWide C.prog W .any base t v) →
      DataW.Whole enc C.prog fn.params.toList s.vars apart W args.toList ds gs before →
      conds.all (PathCond.test C.prog ⟨fn.params.toList, ds, s.plain.varTypes C.prog, gs⟩) = true →
      (DataW.weightsEach C.prog (fn.params.toList ++ s.plain.varTypes C.prog) (ds ++ gs)).all (· ≤ reachBytes) = true → W.ShapedOpen C.prog → X W args →
      a.holds C.prog (lone (Frame.enter C.prog f args .normal) [] W) →
      Calls C.prog f args W fun e W' => ∃ v, e = .returned v ∧ s.post enc C.prog fn apart fresh handsOn again W args v W') :
    ReturnsInHanded a C os f .any (fun w args => (s.pre enc C.prog fn conds apart w args ∧ X w args) ∧ sizedMet enc C.prog fn (OpenSpec.ofChange s) apart w args) (s.post enc C.prog fn apart fresh handsOn again) := by
  refine returnsInHanded_of_calls own started noInit witness ?_
  intro w tape i _ hsh _ hok hpre hholds
  obtain ⟨_, _, _, fn', hfn', _, _, _, _, hval⟩ := hok
  have e : fn' = fn := Option.some.inj (hfn'.symm.trans hfn)
  subst e
  obtain ⟨⟨⟨ds, gs, before, hw, hc⟩, hx⟩, hz⟩ := hpre
  have hw' := DataW.Whole.of_heap (w' := w.forCall tape i) (by rfl) hw
  refine (contract (w.forCall tape i) w.heap.size i.args ds gs before hval hw' hc (hz.weights hw) hsh (hX _ _ _ (by rfl) hx) hholds).mono fun e W' ⟨v, he, hp⟩ => ?_
  subst he
  exact ChangeSpec.post_blind hp
end
theorem list_of15 {cs : List Value} {a0 a1 a2 a3 a4 a5 a6 a7 a8 a9 a10 a11 a12 a13 a14 : Value} (hl : cs.length = 15) (h0 : cs[0]? = some a0) (h1 : cs[1]? = some a1) (h2 : cs[2]? = some a2) (h3 : cs[3]? = some a3) (h4 : cs[4]? = some a4) (h5 : cs[5]? = some a5) (h6 : cs[6]? = some a6) (h7 : cs[7]? = some a7) (h8 : cs[8]? = some a8) (h9 : cs[9]? = some a9) (h10 : cs[10]? = some a10) (h11 : cs[11]? = some a11) (h12 : cs[12]? = some a12) (h13 : cs[13]? = some a13) (h14 : cs[14]? = some a14) : cs = [a0, a1, a2, a3, a4, a5, a6, a7, a8, a9, a10, a11, a12, a13, a14] := by
  match cs, hl with
  | [x0, x1, x2, x3, x4, x5, x6, x7, x8, x9, x10, x11, x12, x13, x14], _ =>
    obtain rfl := Option.some.inj (show some x0 = some a0 from h0)
    obtain rfl := Option.some.inj (show some x1 = some a1 from h1)
    obtain rfl := Option.some.inj (show some x2 = some a2 from h2)
    obtain rfl := Option.some.inj (show some x3 = some a3 from h3)
    obtain rfl := Option.some.inj (show some x4 = some a4 from h4)
    obtain rfl := Option.some.inj (show some x5 = some a5 from h5)
    obtain rfl := Option.some.inj (show some x6 = some a6 from h6)
    obtain rfl := Option.some.inj (show some x7 = some a7 from h7)
    obtain rfl := Option.some.inj (show some x8 = some a8 from h8)
    obtain rfl := Option.some.inj (show some x9 = some a9 from h9)
    obtain rfl := Option.some.inj (show some x10 = some a10 from h10)
    obtain rfl := Option.some.inj (show some x11 = some a11 from h11)
    obtain rfl := Option.some.inj (show some x12 = some a12 from h12)
    obtain rfl := Option.some.inj (show some x13 = some a13 from h13)
    obtain rfl := Option.some.inj (show some x14 = some a14 from h14)
    rfl
end Go.Proofs.YtdflkikhmngfiaaGreatDoor


/- Texts byte by byte, as expressions: help for the plain side. -/
namespace Go.Proofs.YtdflkikhmngfiaaGreatDoor
open Go.RowKit
set_option linter.unusedVariables false
set_option linter.unusedSimpArgs false
set_option linter.unusedSectionVars false

theorem strL_app (a b : List UInt8) : strL (a ++ b) = strL a ++ strL b := LL_inj (by rw [LL_strL, LL_app, LL_strL, LL_strL])
theorem strL_len (a : List UInt8) : (strL a).size = a.length := by rw [← LL_len, LL_strL]
theorem LL_get (s : ByteArray) (i : Nat) (h : i < (LL s).length) : s.data.toList.getD i 0 = (LL s)[i] := by
  show (LL s).getD i 0 = _
  rw [List.getD_eq_getElem?_getD, List.getElem?_eq_getElem h]
  rfl
theorem LL_part (s : ByteArray) (i j : Nat) : LL (s.extract i j) = ((LL s).take j).drop i := by
  unfold LL
  rw [ByteArray.data_extract, Array.toList_extract, List.extract_eq_take_drop, List.drop_take]
theorem sub_one (s : ByteArray) (i : Nat) (h : i < (LL s).length) : s.extract i (i + 1) = strL [(LL s)[i]] := LL_inj (by
  rw [LL_part, LL_strL, List.take_succ_eq_append_getElem h, List.drop_append_of_le_length (by rw [List.length_take]; omega), List.drop_eq_nil_of_le (by rw [List.length_take]; omega)]
  rfl)
theorem u8_int {b c : UInt8} : decide ((b.toNat : Int) = (c.toNat : Int)) = decide (b = c) := by
  by_cases h : b = c
  · rw [decide_eq_true h, h]; simp
  · rw [decide_eq_false h]
    refine decide_eq_false fun e => h (UInt8.toNat_inj.1 (by omega))
section
variable [S : Sy] {env : Env} {a ie : Xp} {s : ByteArray} {i : Nat}
theorem ch_at (ha : (@Xp.den (S.at env) a).s = s) (hi : @Xp.den (S.at env) ie = .int i) (h : i < (LL s).length) : @Xp.den (S.at env) (.at a ie) = .int ((LL s)[i].toNat : Int) := by
  show PV.int (((@Xp.den (S.at env) a).s.data.toList.getD (@Xp.den (S.at env) ie).i.toNat 0).toNat : Nat) = _
  rw [ha, hi]
  show PV.int ((s.data.toList.getD i 0).toNat : Nat) = _
  rw [LL_get s i h]
theorem ch_eq (ha : (@Xp.den (S.at env) a).s = s) (hi : @Xp.den (S.at env) ie = .int i) (h : i < (LL s).length) (c : UInt8) : @Xp.den (S.at env) (.cmpi .eql (.at a ie) (.int (c.toNat : Int))) = .bool (decide ((LL s)[i] = c)) := by
  show PV.bool (decide ((@Xp.den (S.at env) (.at a ie)).i = (c.toNat : Int))) = _
  rw [ch_at ha hi h]
  exact congrArg PV.bool u8_int
/-- A byte below a number. -/
theorem ch_lo (ha : (@Xp.den (S.at env) a).s = s) (hi : @Xp.den (S.at env) ie = .int i) (h : i < (LL s).length) (c : Int) : @Xp.den (S.at env) (.cmpi .lss (.at a ie) (.int c)) = .bool (decide (((LL s)[i].toNat : Int) < c)) := by
  show PV.bool (decide ((@Xp.den (S.at env) (.at a ie)).i < c)) = _
  rw [ch_at ha hi h]
  rfl
theorem ch_hi (ha : (@Xp.den (S.at env) a).s = s) (hi : @Xp.den (S.at env) ie = .int i) (h : i < (LL s).length) (c : Int) : @Xp.den (S.at env) (.cmpi .lss (.int c) (.at a ie)) = .bool (decide (c < ((LL s)[i].toNat : Int))) := by
  show PV.bool (decide (c < (@Xp.den (S.at env) (.at a ie)).i)) = _
  rw [ch_at ha hi h]
  rfl
theorem ch_lt (ha : (@Xp.den (S.at env) a).s = s) (hi : @Xp.den (S.at env) ie = .int i) : @Xp.den (S.at env) (.cmpi .lss ie (.lens a)) = .bool (decide (i < (LL s).length)) := by
  show PV.bool (decide ((@Xp.den (S.at env) ie).i < ((@Xp.den (S.at env) a).s.size : Int))) = _
  rw [ha, hi, LL_len]
  refine congrArg PV.bool ?_
  show decide ((i : Int) < (s.size : Int)) = _
  by_cases h : i < s.size
  · rw [decide_eq_true h, decide_eq_true (by omega)]
  · rw [decide_eq_false h, decide_eq_false (by omega)]
theorem ch_inb (ha : (@Xp.den (S.at env) a).s = s) (hi : @Xp.den (S.at env) ie = .int i) (h : i < (LL s).length) : @Xp.den (S.at env) (.inb ie (.lens a)) = .bool true := by
  show PV.bool (decide (0 ≤ (@Xp.den (S.at env) ie).i) && decide ((@Xp.den (S.at env) ie).i < ((@Xp.den (S.at env) a).s.size : Int))) = _
  rw [ha, hi]
  rw [LL_len] at h
  show PV.bool (decide ((0 : Int) ≤ (i : Int)) && decide ((i : Int) < (s.size : Int))) = _
  rw [decide_eq_true (Int.natCast_nonneg i), decide_eq_true (show (i : Int) < (s.size : Int) by omega)]
  rfl
theorem ch_inc (hi : @Xp.den (S.at env) ie = .int i) (h : i < 4611686018427387904) : @Xp.den (S.at env) (.bin .add .i64 ie (.int 1)) = .int ((i + 1 : Nat) : Int) := by
  show PV.int (IntKind.i64.wrap ((@Xp.den (S.at env) ie).i + 1)) = _
  rw [hi]
  show PV.int (IntKind.i64.wrap ((i : Int) + 1)) = _
  rw [i64_add1 (by omega) (by omega)]
  rfl
theorem ch_sub (ha : (@Xp.den (S.at env) a).s = s) (hi : @Xp.den (S.at env) ie = .int i) (h : i < (LL s).length) (hb : i < 4611686018427387904) : @Xp.den (S.at env) (.subs a ie (.bin .add .i64 ie (.int 1))) = .str (strL [(LL s)[i]]) := by
  show PV.str ((@Xp.den (S.at env) a).s.extract (@Xp.den (S.at env) ie).i.toNat (@Xp.den (S.at env) (.bin .add .i64 ie (.int 1))).i.toNat) = _
  rw [ch_inc hi hb, ha, hi]
  show PV.str (s.extract i (i + 1)) = _
  rw [sub_one s i h]
theorem ch_rng (ha : (@Xp.den (S.at env) a).s = s) (hi : @Xp.den (S.at env) ie = .int i) (h : i < (LL s).length) (hb : i < 4611686018427387904) : @Xp.den (S.at env) (.rng ie (.bin .add .i64 ie (.int 1)) (.lens a)) = .bool true := by
  show PV.bool (decide (0 ≤ (@Xp.den (S.at env) ie).i) && (decide ((@Xp.den (S.at env) ie).i ≤ (@Xp.den (S.at env) (.bin .add .i64 ie (.int 1))).i) && decide ((@Xp.den (S.at env) (.bin .add .i64 ie (.int 1))).i ≤ ((@Xp.den (S.at env) a).s.size : Int)))) = _
  rw [ch_inc hi hb, ha, hi]
  rw [LL_len] at h
  show PV.bool (decide ((0 : Int) ≤ (i : Int)) && (decide ((i : Int) ≤ ((i + 1 : Nat) : Int)) && decide (((i + 1 : Nat) : Int) ≤ (s.size : Int)))) = _
  rw [decide_eq_true (Int.natCast_nonneg i), decide_eq_true (show (i : Int) ≤ ((i + 1 : Nat) : Int) by omega), decide_eq_true (show ((i + 1 : Nat) : Int) ≤ (s.size : Int) by omega)]
  rfl
/-- Two texts, one behind the other. -/
theorem ch_cat {b : Xp} {x y : List UInt8} (ha : @Xp.den (S.at env) a = .str (strL x)) (hb : @Xp.den (S.at env) b = .str (strL y)) : @Xp.den (S.at env) (.cat a b) = .str (strL (x ++ y)) := by
  show PV.str ((@Xp.den (S.at env) a).s ++ (@Xp.den (S.at env) b).s) = _
  rw [ha, hb, strL_app]
  rfl
theorem ch_size {e : Xp} {x : List UInt8} (h : @Xp.den (S.at env) e = .str (strL x)) (hx : x.length ≤ 1000000000) : @Xp.den (S.at env) (.rng (.int 0) (.lens e) (.int 1000000000)) = .bool true := by
  show PV.bool (decide ((0 : Int) ≤ 0) && (decide ((0 : Int) ≤ ((@Xp.den (S.at env) e).s.size : Int)) && decide (((@Xp.den (S.at env) e).s.size : Int) ≤ 1000000000))) = _
  rw [h]
  have hs : (PV.str (strL x)).s.size = x.length := strL_len x
  rw [hs, decide_eq_true (Int.le_refl 0), decide_eq_true (Int.natCast_nonneg _), decide_eq_true (show (x.length : Int) ≤ 1000000000 by omega)]
  rfl
theorem ch_none {e : Xp} {x : List UInt8} (h : @Xp.den (S.at env) e = .str (strL x)) : @Xp.den (S.at env) (.eqs e (.str [])) = .bool x.isEmpty := by
  show PV.bool (decide ((@Xp.den (S.at env) e).s = bytesOf [])) = _
  rw [h]
  refine congrArg PV.bool ?_
  show decide (strL x = bytesOf []) = _
  cases x with
  | nil => exact decide_eq_true rfl
  | cons b l => exact decide_eq_false fun e => by have := congrArg LL e; rw [LL_strL] at this; cases this
theorem ch_snoc {e b : Xp} {L : List PV} {v : PV} (h : @Xp.den (S.at env) e = .lst L) (hb : @Xp.den (S.at env) b = v) : @Xp.den (S.at env) (.snoc e b) = .lst (L ++ [v]) := by
  show PV.lst ((@Xp.den (S.at env) e).l ++ [@Xp.den (S.at env) b]) = _
  rw [h, hb]
  rfl
theorem ch_room {e : Xp} {L : List PV} (h : @Xp.den (S.at env) e = .lst L) (hL : L.length ≤ 100000) : @Xp.den (S.at env) (.rng (.int 0) (.lenl e) (.int 100000)) = .bool true := by
  show PV.bool (decide ((0 : Int) ≤ 0) && (decide ((0 : Int) ≤ ((@Xp.den (S.at env) e).l.length : Int)) && decide (((@Xp.den (S.at env) e).l.length : Int) ≤ 100000))) = _
  rw [h]
  show PV.bool (decide ((0 : Int) ≤ 0) && (decide ((0 : Int) ≤ (L.length : Int)) && decide ((L.length : Int) ≤ 100000))) = _
  rw [decide_eq_true (Int.le_refl 0), decide_eq_true (Int.natCast_nonneg _), decide_eq_true (show (L.length : Int) ≤ 100000 by omega)]
  rfl
/-- Lists, by a place. -/
theorem ls_lt {L : List PV} (ha : (@Xp.den (S.at env) a).l = L) (hi : @Xp.den (S.at env) ie = .int i) : @Xp.den (S.at env) (.cmpi .lss ie (.lenl a)) = .bool (decide (i < L.length)) := by
  show PV.bool (decide ((@Xp.den (S.at env) ie).i < ((@Xp.den (S.at env) a).l.length : Int))) = _
  rw [ha, hi]
  refine congrArg PV.bool ?_
  show decide ((i : Int) < (L.length : Int)) = _
  by_cases h : i < L.length
  · rw [decide_eq_true h, decide_eq_true (by omega)]
  · rw [decide_eq_false h, decide_eq_false (by omega)]
theorem ls_inb {L : List PV} (ha : (@Xp.den (S.at env) a).l = L) (hi : @Xp.den (S.at env) ie = .int i) (h : i < L.length) : @Xp.den (S.at env) (.inb ie (.lenl a)) = .bool true := by
  show PV.bool (decide (0 ≤ (@Xp.den (S.at env) ie).i) && decide ((@Xp.den (S.at env) ie).i < ((@Xp.den (S.at env) a).l.length : Int))) = _
  rw [ha, hi]
  show PV.bool (decide ((0 : Int) ≤ (i : Int)) && decide ((i : Int) < (L.length : Int))) = _
  rw [decide_eq_true (Int.natCast_nonneg i), decide_eq_true (show (i : Int) < (L.length : Int) by omega)]
  rfl
theorem ls_get {L : List PV} (ha : (@Xp.den (S.at env) a).l = L) (hi : @Xp.den (S.at env) ie = .int i) (h : i < L.length) : @Xp.den (S.at env) (.get a ie 1 0) = L[i] := by
  show (((@Xp.den (S.at env) a).l.getD (@Xp.den (S.at env) ie).i.toNat default).row 1).getD 0 default = _
  rw [ha, hi]
  show L.getD i default = _
  rw [List.getD_eq_getElem?_getD, List.getElem?_eq_getElem h]
  rfl
end
end Go.Proofs.YtdflkikhmngfiaaGreatDoor

