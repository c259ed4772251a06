/- Fields as a row of cells; slices.Clone of fields. -/
import Derived.Test.YtmnaljnkgaebkaaFldK
import Derived.Maps.AppendAt
import Derived.Lib.SliceRun
namespace Go.Proofs.Ytmnaljnkgaebkaa
open Go.RowKit
set_option linter.unusedVariables false
set_option linter.unusedSimpArgs false

def Fld.cells (f : Fld) : List Value := [.string f.name, .string f.value, .bool f.never]
def fcells (L : List Fld) : List Value := L.flatMap Fld.cells
theorem fcells_cons (f : Fld) (L : List Fld) : fcells (f :: L) = f.cells ++ fcells L := by simp [fcells]
theorem fcells_append (a b : List Fld) : fcells (a ++ b) = fcells a ++ fcells b := by simp [fcells]
theorem fcells_len (L : List Fld) : (fcells L).length = L.length * 3 := by
  induction L with
  | nil => rfl
  | cons f l ih => rw [fcells_cons, List.length_append, ih, List.length_cons]; simp [Fld.cells]; omega
theorem fcells_one (L : List Fld) : ∀ u ∈ fcells L, u.oneCell' = true := by
  intro u hu
  obtain ⟨f, _, hf⟩ := List.mem_flatMap.1 hu
  simp [Fld.cells] at hf
  rcases hf with rfl | rfl | rfl <;> rfl
theorem fcells_take (L : List Fld) : ∀ k, fcells (L.take k) = (fcells L).take (k * 3) := by
  induction L with
  | nil => intro k; simp [fcells]
  | cons f l ih =>
    intro k
    cases k with
    | zero => simp [fcells]
    | succ k =>
      rw [List.take_succ_cons, fcells_cons, fcells_cons, ih k, show (k + 1) * 3 = k * 3 + 1 + 1 + 1 from by omega]
      simp [Fld.cells]
theorem FieldsN.tail {W : World} {b o : Nat} {f : Fld} {L : List Fld} (h : FieldsN W (some ⟨b, o, none⟩) (f :: L)) : FieldsN W (some ⟨b, o + 3, none⟩) L := by
  intro i g hg
  obtain ⟨b', o', e, h1, h2, h3⟩ := h (i + 1) g (by simpa using hg)
  simp at e
  obtain ⟨rfl, rfl⟩ := e
  refine ⟨b, o + 3, rfl, ?_, ?_, ?_⟩
  · rw [show o + 3 + i * 3 = o + (i + 1) * 3 from by omega]; exact h1
  · rw [show o + 3 + i * 3 = o + (i + 1) * 3 from by omega]; exact h2
  · rw [show o + 3 + i * 3 = o + (i + 1) * 3 from by omega]; exact h3
theorem FieldsN.cells {W : World} : ∀ (L : List Fld) {b o : Nat} (h : FieldsN W (some ⟨b, o, none⟩) L) (j : Nat) (u : Value), (fcells L)[j]? = some u → W.cell? ⟨b, o + j, none⟩ = some u
  | [], _, _, _, j, u, hu => by simp [fcells] at hu
  | f :: L, b, o, h, j, u, hu => by
    obtain ⟨b', o', e, h1, h2, h3⟩ := h 0 f rfl
    simp at e
    obtain ⟨rfl, rfl⟩ := e
    rw [fcells_cons] at hu
    match j, hu with
    | 0, hu => simp [Fld.cells] at hu; subst hu; simpa using h1
    | 1, hu => simp [Fld.cells] at hu; subst hu; simpa using h2
    | 2, hu => simp [Fld.cells] at hu; subst hu; simpa using h3
    | j + 3, hu =>
      have := FieldsN.cells L h.tail j u (by simpa [Fld.cells] using hu)
      rwa [show o + 3 + j = o + (j + 3) from by omega] at this
theorem fcells_get (L : List Fld) : ∀ (i : Nat) (f : Fld), L[i]? = some f → (fcells L)[i * 3]? = some (.string f.name) ∧ (fcells L)[i * 3 + 1]? = some (.string f.value) ∧ (fcells L)[i * 3 + 2]? = some (.bool f.never) := by
  induction L with
  | nil => intro i f h; simp at h
  | cons g l ih =>
    intro i f h
    cases i with
    | zero => simp at h; subst h; simp [fcells, Fld.cells]
    | succ i =>
      have := ih i f (by simpa using h)
      rw [fcells_cons, show (i + 1) * 3 = i * 3 + 1 + 1 + 1 from by omega]
      simpa [Fld.cells] using this
theorem FieldsN.ofCells {W : World} {L : List Fld} {b o : Nat} (h : ∀ (j : Nat) (u : Value), (fcells L)[j]? = some u → W.cell? ⟨b, o + j, none⟩ = some u) : FieldsN W (some ⟨b, o, none⟩) L := by
  intro i f hf
  obtain ⟨h1, h2, h3⟩ := fcells_get L i f hf
  exact ⟨b, o, rfl, h _ _ h1, h _ _ h2, h _ _ h3⟩
theorem FieldsN.nil (W : World) (oa : Option Addr) : FieldsN W oa [] := fun i f h => by simp at h
theorem FieldsN.none_nil {W : World} {L : List Fld} (h : FieldsN W none L) : L = [] := by
  cases L with
  | nil => rfl
  | cons f l => obtain ⟨b, o, e, _⟩ := h 0 f rfl; cases e

/-- A value that has a row of fields of its own. -/
def OwnF (w : World) (B : Nat) (v : Value) (L : List Fld) : Prop := w.ownsRow B 50 3 v L.length (fcells L)
theorem add_zero (g j : Nat) : ((⟨g, 0, none⟩ : Addr).add j) = ⟨g, j, none⟩ := by unfold Addr.add; split <;> simp_all
theorem OwnF.form {w : World} {B : Nat} {v : Value} {L : List Fld} (h : OwnF w B v L) : ∃ oa cap, v = .slice oa L.length cap ∧ FieldsN w oa L ∧ L.length ≤ cap ∧ cap ≤ maxLen ∧ (∀ a, oa = some a → B ≤ a.block ∧ a.block < w.heap.size) := by
  rcases h.2 with ⟨rfl, h0⟩ | ⟨g, cap, cur, rfl, hb, hg, h1, h2, _⟩
  · have : L = [] := List.length_eq_zero_iff.1 h0
    subst this
    exact ⟨none, 0, rfl, FieldsN.nil _ _, Nat.le_refl _, Nat.zero_le _, fun a e => by cases e⟩
  · refine ⟨_, cap, rfl, FieldsN.ofCells fun j u hu => ?_, h1, h2, fun a e => by cases e; exact ⟨hb, (h.lt g rfl).2⟩⟩
    have := h.cells (g := g) rfl j u hu
    rw [add_zero] at this
    simpa using this
theorem OwnF.take {w : World} {B : Nat} {oa : Option Addr} {cap : Nat} {L : List Fld} (h : OwnF w B (.slice oa L.length cap) L) (k : Nat) (hk : k ≤ L.length) : OwnF w B (.slice oa k cap) (L.take k) := by
  have hkl : (L.take k).length = k := by rw [List.length_take]; omega
  refine ⟨by rw [fcells_len], ?_⟩
  rw [hkl]
  rcases h.2 with ⟨e, h0⟩ | ⟨g, cap', cur, e, hb, hg, h1, h2, h3, h4⟩
  · obtain ⟨rfl, _, rfl⟩ : oa = none ∧ L.length = 0 ∧ cap = 0 := by simpa using e
    exact .inl ⟨by rw [show k = 0 from by omega], by omega⟩
  · obtain ⟨rfl, _, rfl⟩ : oa = some ⟨g, 0, none⟩ ∧ L.length = L.length ∧ cap = cap' := by simpa using e
    refine .inr ⟨g, cap, cur, rfl, hb, hg, by omega, h2, h3, ?_⟩
    rw [fcells_take, ← h4, List.take_take]
    congr 1
    omega
theorem OwnF.step {w w' : World} {B : Nat} {v : Value} {L : List Fld} (h : OwnF w B v L) (hb : Below w.heap.size w w') : OwnF w' B v L := owns_below h hb
theorem OwnF.mono {w : World} {B B' : Nat} {v : Value} {L : List Fld} (h : OwnF w B v L) (hb : B' ≤ B) : OwnF w B' v L := World.ownsRow.mono h hb
theorem field_info : (Try.prog.info? 50).map (fun i => (i.zero, i.size, i.bytes)) = some (some (.agg #[.string ⟨#[]⟩, .string ⟨#[]⟩, .bool false]), 3, 40) := by kernel_rfl

def ClonePost (L : List Fld) (w : World) (e : Ending) (w' : World) : Prop := ∃ v, e = .returned v ∧ OwnF w' w.heap.size v L ∧ Below w.heap.size w w'
set_option maxRecDepth 100000 in
set_option maxHeartbeats 1000000 in
theorem clone_any (oa : Option Addr) (n cap : Nat) (L : List Fld) (hn : L.length = n) (hn100 : n ≤ 1000) (w : World) (hf : FieldsN w oa L) :
    Calls Try.prog 93 #[.slice oa n cap] w (ClonePost L w) := by
  obtain ⟨i0, hi0, hz0, hz1, hz2⟩ := info_parts field_info
  have HI := Lib.hid hi0
  have HZ0 := Lib.hid hz0
  have HZ1 := Lib.hid hz1
  have HZ2 := Lib.hid hz2
  clear hi0 hz0 hz1 hz2
  have HN := Lib.hid hn
  have HF := Lib.hid hf
  clear hn hf
  have q22 : ∀ (w : World) (a : Option Addr) (n c n' c' : Nat), (binOp .eql 44 (.slice a n c) (.slice none n' c')).run Try.prog w = .ok (.bool a.isNone) w := fun w a n c n' c' => Lib.run_eql_slice_nil w _ _ a n c n' c' Try.underlying44
  cases oa with
  | none =>
    obtain rfl := HF.out.none_nil
    obtain rfl := HN.out
    go_enter Try.func93, Try.ntmps93
    go_wp2_with fail
    go_ret
    exact ⟨_, rfl, World.ownsRow_nil _ _ _ _, Below.refl _ _⟩
  | some a =>
    have hnews : ∀ j u, (fcells L)[j]? = some u → (w.alloc (.cells #[] 50)).cell? (a.add j) = some u := by
      intro j u hu
      cases L with
      | nil => simp [fcells] at hu
      | cons f l =>
        obtain ⟨b, o, e, _⟩ := HF.out 0 f rfl
        cases e
        have hc := HF.out.cells (L := f :: l) j u hu
        have hlt := World.block_lt_of_cell? _ _ hc
        have hw : ((⟨b, o, none⟩ : Addr).add j) = ⟨b, o + j, none⟩ := by unfold Addr.add; split <;> simp_all
        rw [hw, cell_eq0 (((Below.refl w.heap.size w).alloc (Nat.le_refl _) _).block b hlt)]
        exact hc
    have HNW := Lib.hid hnews
    clear hnews
    have hlen : (fcells L).length = n * 3 := by rw [fcells_len, HN.out]
    have HL := Lib.hid hlen
    clear hlen
    have HO := Lib.hid (World.ownsRow_made (e := 50) (size := 3) w #[] 0 (Nat.le_refl _) (Nat.zero_le _) rfl)
    have hc2 : 0 + n ≤ maxLen := by unfold maxLen; omega
    go_enter Try.func93, Try.ntmps93
    go_wp2_with (at_builtin; refine wpList_append_own_at _ rfl _ _ 44 rfl w.heap.size 50 i0 _ 3 40 Try.underlying44 HI.out HZ0.out HZ1.out HZ2.out rfl (by omega) (.slice (some ⟨w.heap.size, 0, none⟩) 0 0) 0 [] rfl HO.out a n cap (fcells L) rfl HL.out HNW.out (fcells_one L) hc2 (by omega) (by simp) ?_; intro v3 w3 hown3 hg3 _ _; clear hc2)
    have B3 := Lib.hid (((Below.refl w.heap.size w).alloc (Nat.le_refl _) (.cells #[] 50)).grown hg3 (by simp) (fun q hq => (HO.out.lt q hq).1))
    have HO3 := Lib.hid hown3
    clear hg3 hown3
    go_wp2_with fail
    go_ret
    refine ⟨_, rfl, ?_, B3.out⟩
    have := HO3.out
    rw [Nat.zero_add, List.nil_append, ← HN.out] at this
    exact this
#print axioms clone_any
end Go.Proofs.Ytmnaljnkgaebkaa
