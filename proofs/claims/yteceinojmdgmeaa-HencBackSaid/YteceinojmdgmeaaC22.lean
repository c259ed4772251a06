/- FldK · FldO: joined by a program, for a claim has at most 60 files. -/
import Derived.Test.YteceinojmdgmeaaC21
import Derived.Maps.AppendAt
import Derived.Lib.SliceRun
/- Whether a table may be: dyntab.Check. -/
namespace Go.Proofs.Yteceinojmdgmeaa
open Go.RowKit
set_option linter.unusedVariables false
set_option linter.unusedSimpArgs false

theorem in_yes (m : Int) (h : 0 ≤ m ∧ m ≤ 4096) (w : World) : Calls Try.prog 69 #[.int .i64 m] w fun e w' => e = .returned (.bool true) ∧ w' = w := by
  have h1 : decide (0 ≤ m) = true := by simpa using h.1
  have h2 : decide (m ≤ 4096) = true := by simpa using h.2
  clear h
  go_enter Try.func69, Try.ntmps69
  go_wp2_with fail
  go_ret
  exact ⟨rfl, rfl⟩
theorem in_no (m : Int) (h : m < 0 ∨ 4096 < m) (w : World) : Calls Try.prog 69 #[.int .i64 m] w fun e w' => e = .returned (.bool false) ∧ w' = w := by
  rcases h with h | h
  · have h1 : decide (0 ≤ m) = false := by simp; omega
    clear h
    go_enter Try.func69, Try.ntmps69
    go_wp2_with fail
    go_ret
    exact ⟨rfl, rfl⟩
  · have h1 : decide (0 ≤ m) = true := by simp; omega
    have h2 : decide (m ≤ 4096) = false := by simp; omega
    clear h
    go_enter Try.func69, Try.ntmps69
    go_wp2_with fail
    go_ret
    exact ⟨rfl, rfl⟩
theorem never_any (a b : ByteArray) (c : Bool) (w : World) : Calls Try.prog 70 #[.agg #[.string a, .string b, .bool c]] w fun e w' => e = .returned (.bool c) ∧ Below w.heap.size w w' := by
  go_enter Try.func70, Try.ntmps70
  go_wp2_with fail
  go_ret
  exact ⟨rfl, (Below.refl _ _).alloc (Nat.le_refl _) _⟩
def IdxPost (L : List Fld) (w : World) (e : Ending) (w' : World) : Prop := ∃ z : Int, e = .returned (.int .i64 z) ∧ decide (0 ≤ z) = L.any (·.never) ∧ Below w.heap.size w w'
set_option maxRecDepth 100000 in
set_option maxHeartbeats 1000000 in
theorem indexNever_any (oa : Option Addr) (n cap : Nat) (L : List Fld) (hn : L.length = n) (hn100 : n ≤ 1000) (w : World) (hf : FieldsN w oa L) :
    Calls Try.prog 84 #[.slice oa n cap, .func (.func 70) #[] #[]] w (IdxPost L w) := by
  have HN := Lib.hid hn
  have HF := Lib.hid hf
  clear hn hf
  go_enter Try.func84, Try.ntmps84
  go_wp2_with fail
  go_loopw [8] (fun i wr => ∃ k : Nat, k ≤ n ∧ i = .int .i64 k ∧ (L.take k).any (·.never) = false ∧ Below w.heap.size w wr) (fun i _ => n - (intOf i).toNat)
  case atStart => exact ⟨0, Nat.zero_le _, rfl, by simp, Below.refl _ _⟩
  case round =>
    obtain ⟨k, hk, rfl, hany, bk⟩ := hrel
    have HA := Lib.hid hany
    have BK := Lib.hid bk
    clear hany bk
    by_cases hlt : k < n
    · have hki : (k : Int) < (n : Int) := by omega
      have hkL : k < L.length := by rw [HN.out]; exact hlt
      obtain ⟨b, o, rfl, g1, g2, g3⟩ := (HF.out.below BK.out) k L[k] (List.getElem?_eq_getElem hkL)
      have HTK := Lib.hid (show (L.take (k + 1)).any (·.never) = L[k].never from by
        rw [List.take_succ_eq_append_getElem hkL, List.any_append, HA.out]; simp)
      have HIN := Lib.hid (show L[k].never = true → L.any (·.never) = true from fun h => List.any_eq_true.2 ⟨L[k], List.getElem_mem hkL, h⟩)
      generalize L[k] = f at g1 g2 g3 HTK HIN
      obtain ⟨nm, vl, nv⟩ := f
      simp only at g1 g2 g3
      go_wp2_with fail
      refine (never_any nm vl nv _).mono ?_
      rintro e w5 ⟨rfl, hb⟩
      have B5 := Lib.hid (BK.out.trans (hb.mono BK.out.size))
      clear hb
      cases nv
      · go_wp2_with fail
        go_roundw
        case rel => exact ⟨k + 1, by omega, by go_num, HTK.out, B5.out⟩
        case measure => simp [intOf]; omega
      · have HX := Lib.hid (HIN.out rfl)
        go_wp2_with fail
        refine bodyPost_ret (v := .int .i64 (k : Int)) (by simp [results, Try.results84, go_sem]) rfl ⟨_, rfl, by rw [HX.out]; simp, B5.out⟩
    · obtain rfl : k = n := by omega
      have HX := Lib.hid (show L.any (·.never) = false from by have := HA.out; rwa [List.take_of_length_le (by rw [HN.out]; exact Nat.le_refl _)] at this)
      go_wp2_with fail
      refine bodyPost_ret (v := .int .i64 (-1)) (by simp [results, Try.results84, go_sem]) rfl ⟨_, rfl, by rw [HX.out]; rfl, BK.out⟩
theorem containsNever_any (oa : Option Addr) (n cap : Nat) (L : List Fld) (hn : L.length = n) (hn100 : n ≤ 1000) (w : World) (hf : FieldsN w oa L) :
    Calls Try.prog 58 #[.slice oa n cap, .func (.func 70) #[] #[]] w fun e w' => e = .returned (.bool (L.any (·.never))) ∧ Below w.heap.size w w' := by
  have HI := Lib.hid (indexNever_any oa n cap L hn hn100 w hf)
  clear hn hf
  go_enter Try.func58, Try.ntmps58
  go_wp2_with fail
  refine HI.out.mono ?_
  rintro e w1 ⟨z, rfl, hz, hb⟩
  have HB := Lib.hid hb
  clear hb
  generalize hx : L.any (·.never) = x at hz
  have HX := Lib.hid hx
  clear hx
  go_wp2_with fail
  go_ret
  exact ⟨by rw [HX.out]; rfl, HB.out⟩
set_option maxRecDepth 100000 in
set_option maxHeartbeats 1000000 in
theorem check_any (m : Int) (oa : Option Addr) (n cap : Nat) (L : List Fld) (hn : L.length = n) (hl : ∀ f ∈ L, lightF f = true) (hn30 : n ≤ 1000) (w : World) (hf : FieldsN w oa L) :
    Calls Try.prog 45 #[.agg #[.int .i64 m, .slice oa n cap]] w fun e w' => e = .returned (.int .i64 (chkN m L)) ∧ Below w.heap.size w w' := by
  have HSZ := Lib.hid (fun W hW => size_tab m oa n cap L hn hl hn30 W hW)
  have HCN := Lib.hid (fun W hW => containsNever_any oa n cap L hn (by omega) W hW)
  have HF := Lib.hid hf
  have hT : (w.alloc (.cells #[.int .i64 m, .slice oa n cap] 28)).heap[w.heap.size]? = some (.cells #[.int .i64 m, .slice oa n cap] 28 (0, 0)) := heap_alloc_new w _
  have HT := Lib.hid (show TabAt 28 w.heap.size w.heap.size m oa n cap L w (w.alloc (.cells #[.int .i64 m, .slice oa n cap] 28)) from
    ⟨hT, HF.out.below ((Below.refl _ _).alloc (Nat.le_refl _) _), (Below.refl _ _).alloc (Nat.le_refl _) _, by simp, by simp⟩)
  clear hn hf hl hT
  by_cases h0 : m < 0 ∨ 4096 < m
  · have HC := Lib.hid (show chkN m L = 8 from by unfold chkN; rw [if_pos h0])
    have HI := Lib.hid (in_no m h0)
    clear h0
    go_enter Try.func45, Try.ntmps45
    go_wp2_with fail
    refine (HI.out _).mono ?_
    rintro e w1 ⟨rfl, hw⟩
    subst hw
    go_wp2_with fail
    refine bodyPost_ret (v := .int .i64 8) (by simp [results, Try.results45, go_sem]) rfl ⟨by rw [HC.out], HT.out.below⟩
  · have HC := Lib.hid (show chkN m L = if L.any (·.never) then 4 else if m < (sumF L : Nat) then 5 else 0 from by unfold chkN; rw [if_neg h0])
    have HI := Lib.hid (in_yes m (by omega))
    clear h0
    generalize sumF L = S at HC HSZ
    go_enter Try.func45, Try.ntmps45
    go_wp2_with fail
    refine (HI.out _).mono ?_
    rintro e w1 ⟨rfl, hw⟩
    subst hw
    generalize (w.alloc (.cells #[.int .i64 m, .slice oa n cap] 28)) = W at HT ⊢
    have c1 := HT.out.c1
    generalize hqq : w.heap.size = q at HT c1 ⊢
    have HQQ := Lib.hid hqq
    clear hqq
    go_wp2_with fail
    refine (HCN.out _ HT.out.flds).mono ?_
    rintro e w2 ⟨rfl, hb⟩
    have HT2 := Lib.hid (HT.out.step hb)
    clear hb HT c1 HCN
    cases hx : L.any (·.never)
    · rw [hx] at HC
      clear hx
      go_wp2_with fail
      by_cases hms : m < (S : Int)
      · have hmsb : decide (m < (S : Int)) = true := by simpa using hms
        have HX2 := Lib.hid (show chkN m L = 5 from by rw [HC.out, if_pos hms]; simp)
        clear hms
        refine class_region (C := TabAt 28 q q m oa n cap L w) (by kernel_rfl) (by kernel_rfl) HT2.out.drew ?_
        repeat
          with_reducible refine qrest_step ?_
          intro K hK'
          go_simp
          with_reducible refine QOp.mk ?_
          apply Exists.intro
          with_reducible refine ⟨?_, hK' _ ?_⟩
          · intro W hW
            first
              | exact qat_load_row 28 (.tmp 1) rfl q rfl _ #[.int .i64 m, .slice oa n cap] (0, 0) _ hW.row Try.underlying28 rfl (by kernel_rfl)
              | (have c0 := hW.c0
                 unfold QAt
                 go_simp
                 first
                   | (with_reducible rfl)
                   | (go_at_call 71; refine (HSZ.out _ hW.flds).mono ?_; rintro e w' ⟨rfl, hb⟩; exact ⟨rfl, hW.step hb⟩))
          clear hK' K
        with_reducible refine qrest_nil ?_
        intro w' hw'
        go_wp2_with fail
        refine bodyPost_ret (v := .int .i64 5) (by simp [results, Try.results45, go_sem]) rfl ⟨by rw [HX2.out], by rw [HQQ.out]; exact hw'.below⟩
      · have hmsb : decide (m < (S : Int)) = false := by simpa using hms
        have HX2 := Lib.hid (show chkN m L = 0 from by rw [HC.out, if_neg hms]; simp)
        clear hms
        refine class_region (C := TabAt 28 q q m oa n cap L w) (by kernel_rfl) (by kernel_rfl) HT2.out.drew ?_
        repeat
          with_reducible refine qrest_step ?_
          intro K hK'
          go_simp
          with_reducible refine QOp.mk ?_
          apply Exists.intro
          with_reducible refine ⟨?_, hK' _ ?_⟩
          · intro W hW
            first
              | exact qat_load_row 28 (.tmp 1) rfl q rfl _ #[.int .i64 m, .slice oa n cap] (0, 0) _ hW.row Try.underlying28 rfl (by kernel_rfl)
              | (have c0 := hW.c0
                 unfold QAt
                 go_simp
                 first
                   | (with_reducible rfl)
                   | (go_at_call 71; refine (HSZ.out _ hW.flds).mono ?_; rintro e w' ⟨rfl, hb⟩; exact ⟨rfl, hW.step hb⟩))
          clear hK' K
        with_reducible refine qrest_nil ?_
        intro w' hw'
        go_wp2_with fail
        refine bodyPost_ret (v := .int .i64 0) (by simp [results, Try.results45, go_sem]) rfl ⟨by rw [HX2.out], by rw [HQQ.out]; exact hw'.below⟩
    · have HX := Lib.hid (show chkN m L = 4 from by rw [HC.out, hx]; simp)
      clear hx
      go_wp2_with fail
      refine bodyPost_ret (v := .int .i64 4) (by simp [results, Try.results45, go_sem]) rfl ⟨by rw [HX.out], by rw [HQQ.out]; exact HT2.out.below⟩
end Go.Proofs.Yteceinojmdgmeaa


/- Fields as a row of cells; slices.Clone of fields. -/
namespace Go.Proofs.Yteceinojmdgmeaa
open Go.RowKit
set_option linter.unusedVariables false
set_option linter.unusedSimpArgs false

def Fld.cells (f : Fld) : List Value := [.string f.name, .string f.value, .bool f.never]
def fcells (L : List Fld) : List Value := L.flatMap Fld.cells
theorem fcells_cons (f : Fld) (L : List Fld) : fcells (f :: L) = f.cells ++ fcells L := by simp [fcells]
theorem fcells_append (a b : List Fld) : fcells (a ++ b) = fcells a ++ fcells b := by simp [fcells]
theorem fcells_len (L : List Fld) : (fcells L).length = L.length * 3 := by
  induction L with
  | nil => rfl
  | cons f l ih => rw [fcells_cons, List.length_append, ih, List.length_cons]; simp [Fld.cells]; omega
theorem fcells_one (L : List Fld) : ∀ u ∈ fcells L, u.oneCell' = true := by
  intro u hu
  obtain ⟨f, _, hf⟩ := List.mem_flatMap.1 hu
  simp [Fld.cells] at hf
  rcases hf with rfl | rfl | rfl <;> rfl
theorem fcells_take (L : List Fld) : ∀ k, fcells (L.take k) = (fcells L).take (k * 3) := by
  induction L with
  | nil => intro k; simp [fcells]
  | cons f l ih =>
    intro k
    cases k with
    | zero => simp [fcells]
    | succ k =>
      rw [List.take_succ_cons, fcells_cons, fcells_cons, ih k, show (k + 1) * 3 = k * 3 + 1 + 1 + 1 from by omega]
      simp [Fld.cells]
theorem FieldsN.tail {W : World} {b o : Nat} {f : Fld} {L : List Fld} (h : FieldsN W (some ⟨b, o, none⟩) (f :: L)) : FieldsN W (some ⟨b, o + 3, none⟩) L := by
  intro i g hg
  obtain ⟨b', o', e, h1, h2, h3⟩ := h (i + 1) g (by simpa using hg)
  simp at e
  obtain ⟨rfl, rfl⟩ := e
  refine ⟨b, o + 3, rfl, ?_, ?_, ?_⟩
  · rw [show o + 3 + i * 3 = o + (i + 1) * 3 from by omega]; exact h1
  · rw [show o + 3 + i * 3 = o + (i + 1) * 3 from by omega]; exact h2
  · rw [show o + 3 + i * 3 = o + (i + 1) * 3 from by omega]; exact h3
theorem FieldsN.cells {W : World} : ∀ (L : List Fld) {b o : Nat} (h : FieldsN W (some ⟨b, o, none⟩) L) (j : Nat) (u : Value), (fcells L)[j]? = some u → W.cell? ⟨b, o + j, none⟩ = some u
  | [], _, _, _, j, u, hu => by simp [fcells] at hu
  | f :: L, b, o, h, j, u, hu => by
    obtain ⟨b', o', e, h1, h2, h3⟩ := h 0 f rfl
    simp at e
    obtain ⟨rfl, rfl⟩ := e
    rw [fcells_cons] at hu
    match j, hu with
    | 0, hu => simp [Fld.cells] at hu; subst hu; simpa using h1
    | 1, hu => simp [Fld.cells] at hu; subst hu; simpa using h2
    | 2, hu => simp [Fld.cells] at hu; subst hu; simpa using h3
    | j + 3, hu =>
      have := FieldsN.cells L h.tail j u (by simpa [Fld.cells] using hu)
      rwa [show o + 3 + j = o + (j + 3) from by omega] at this
theorem fcells_get (L : List Fld) : ∀ (i : Nat) (f : Fld), L[i]? = some f → (fcells L)[i * 3]? = some (.string f.name) ∧ (fcells L)[i * 3 + 1]? = some (.string f.value) ∧ (fcells L)[i * 3 + 2]? = some (.bool f.never) := by
  induction L with
  | nil => intro i f h; simp at h
  | cons g l ih =>
    intro i f h
    cases i with
    | zero => simp at h; subst h; simp [fcells, Fld.cells]
    | succ i =>
      have := ih i f (by simpa using h)
      rw [fcells_cons, show (i + 1) * 3 = i * 3 + 1 + 1 + 1 from by omega]
      simpa [Fld.cells] using this
theorem FieldsN.ofCells {W : World} {L : List Fld} {b o : Nat} (h : ∀ (j : Nat) (u : Value), (fcells L)[j]? = some u → W.cell? ⟨b, o + j, none⟩ = some u) : FieldsN W (some ⟨b, o, none⟩) L := by
  intro i f hf
  obtain ⟨h1, h2, h3⟩ := fcells_get L i f hf
  exact ⟨b, o, rfl, h _ _ h1, h _ _ h2, h _ _ h3⟩
theorem FieldsN.nil (W : World) (oa : Option Addr) : FieldsN W oa [] := fun i f h => by simp at h
theorem FieldsN.none_nil {W : World} {L : List Fld} (h : FieldsN W none L) : L = [] := by
  cases L with
  | nil => rfl
  | cons f l => obtain ⟨b, o, e, _⟩ := h 0 f rfl; cases e

/-- A value that has a row of fields of its own. -/
def OwnF (w : World) (B : Nat) (v : Value) (L : List Fld) : Prop := w.ownsRow B 25 3 v L.length (fcells L)
theorem add_zero (g j : Nat) : ((⟨g, 0, none⟩ : Addr).add j) = ⟨g, j, none⟩ := by unfold Addr.add; split <;> simp_all
theorem OwnF.form {w : World} {B : Nat} {v : Value} {L : List Fld} (h : OwnF w B v L) : ∃ oa cap, v = .slice oa L.length cap ∧ FieldsN w oa L ∧ L.length ≤ cap ∧ cap ≤ maxLen ∧ (∀ a, oa = some a → B ≤ a.block ∧ a.block < w.heap.size) := by
  rcases h.2 with ⟨rfl, h0⟩ | ⟨g, cap, cur, rfl, hb, hg, h1, h2, _⟩
  · have : L = [] := List.length_eq_zero_iff.1 h0
    subst this
    exact ⟨none, 0, rfl, FieldsN.nil _ _, Nat.le_refl _, Nat.zero_le _, fun a e => by cases e⟩
  · refine ⟨_, cap, rfl, FieldsN.ofCells fun j u hu => ?_, h1, h2, fun a e => by cases e; exact ⟨hb, (h.lt g rfl).2⟩⟩
    have := h.cells (g := g) rfl j u hu
    rw [add_zero] at this
    simpa using this
theorem OwnF.take {w : World} {B : Nat} {oa : Option Addr} {cap : Nat} {L : List Fld} (h : OwnF w B (.slice oa L.length cap) L) (k : Nat) (hk : k ≤ L.length) : OwnF w B (.slice oa k cap) (L.take k) := by
  have hkl : (L.take k).length = k := by rw [List.length_take]; omega
  refine ⟨by rw [fcells_len], ?_⟩
  rw [hkl]
  rcases h.2 with ⟨e, h0⟩ | ⟨g, cap', cur, e, hb, hg, h1, h2, h3, h4⟩
  · obtain ⟨rfl, _, rfl⟩ : oa = none ∧ L.length = 0 ∧ cap = 0 := by simpa using e
    exact .inl ⟨by rw [show k = 0 from by omega], by omega⟩
  · obtain ⟨rfl, _, rfl⟩ : oa = some ⟨g, 0, none⟩ ∧ L.length = L.length ∧ cap = cap' := by simpa using e
    refine .inr ⟨g, cap, cur, rfl, hb, hg, by omega, h2, h3, ?_⟩
    rw [fcells_take, ← h4, List.take_take]
    congr 1
    omega
theorem OwnF.step {w w' : World} {B : Nat} {v : Value} {L : List Fld} (h : OwnF w B v L) (hb : Below w.heap.size w w') : OwnF w' B v L := owns_below h hb
theorem OwnF.mono {w : World} {B B' : Nat} {v : Value} {L : List Fld} (h : OwnF w B v L) (hb : B' ≤ B) : OwnF w B' v L := World.ownsRow.mono h hb
theorem field_info : (Try.prog.info? 25).map (fun i => (i.zero, i.size, i.bytes)) = some (some (.agg #[.string ⟨#[]⟩, .string ⟨#[]⟩, .bool false]), 3, 40) := by kernel_rfl

def ClonePost (L : List Fld) (w : World) (e : Ending) (w' : World) : Prop := ∃ v, e = .returned v ∧ OwnF w' w.heap.size v L ∧ Below w.heap.size w w'
set_option maxRecDepth 100000 in
set_option maxHeartbeats 1000000 in
theorem clone_any (oa : Option Addr) (n cap : Nat) (L : List Fld) (hn : L.length = n) (hn100 : n ≤ 1000) (w : World) (hf : FieldsN w oa L) :
    Calls Try.prog 81 #[.slice oa n cap] w (ClonePost L w) := by
  obtain ⟨i0, hi0, hz0, hz1, hz2⟩ := info_parts field_info
  have HI := Lib.hid hi0
  have HZ0 := Lib.hid hz0
  have HZ1 := Lib.hid hz1
  have HZ2 := Lib.hid hz2
  clear hi0 hz0 hz1 hz2
  have HN := Lib.hid hn
  have HF := Lib.hid hf
  clear hn hf
  have q22 : ∀ (w : World) (a : Option Addr) (n c n' c' : Nat), (binOp .eql 26 (.slice a n c) (.slice none n' c')).run Try.prog w = .ok (.bool a.isNone) w := fun w a n c n' c' => Lib.run_eql_slice_nil w _ _ a n c n' c' Try.underlying26
  cases oa with
  | none =>
    obtain rfl := HF.out.none_nil
    obtain rfl := HN.out
    go_enter Try.func81, Try.ntmps81
    go_wp2_with fail
    go_ret
    exact ⟨_, rfl, World.ownsRow_nil _ _ _ _, Below.refl _ _⟩
  | some a =>
    have hnews : ∀ j u, (fcells L)[j]? = some u → (w.alloc (.cells #[] 25)).cell? (a.add j) = some u := by
      intro j u hu
      cases L with
      | nil => simp [fcells] at hu
      | cons f l =>
        obtain ⟨b, o, e, _⟩ := HF.out 0 f rfl
        cases e
        have hc := HF.out.cells (L := f :: l) j u hu
        have hlt := World.block_lt_of_cell? _ _ hc
        have hw : ((⟨b, o, none⟩ : Addr).add j) = ⟨b, o + j, none⟩ := by unfold Addr.add; split <;> simp_all
        rw [hw, cell_eq0 (((Below.refl w.heap.size w).alloc (Nat.le_refl _) _).block b hlt)]
        exact hc
    have HNW := Lib.hid hnews
    clear hnews
    have hlen : (fcells L).length = n * 3 := by rw [fcells_len, HN.out]
    have HL := Lib.hid hlen
    clear hlen
    have HO := Lib.hid (World.ownsRow_made (e := 25) (size := 3) w #[] 0 (Nat.le_refl _) (Nat.zero_le _) rfl)
    have hc2 : 0 + n ≤ maxLen := by unfold maxLen; omega
    go_enter Try.func81, Try.ntmps81
    go_wp2_with (at_builtin; refine wpList_append_own_at _ rfl _ _ 26 rfl w.heap.size 25 i0 _ 3 40 Try.underlying26 HI.out HZ0.out HZ1.out HZ2.out rfl (by omega) (.slice (some ⟨w.heap.size, 0, none⟩) 0 0) 0 [] rfl HO.out a n cap (fcells L) rfl HL.out HNW.out (fcells_one L) hc2 (by omega) (by simp) ?_; intro v3 w3 hown3 hg3 _ _; clear hc2)
    have B3 := Lib.hid (((Below.refl w.heap.size w).alloc (Nat.le_refl _) (.cells #[] 25)).grown hg3 (by simp) (fun q hq => (HO.out.lt q hq).1))
    have HO3 := Lib.hid hown3
    clear hg3 hown3
    go_wp2_with fail
    go_ret
    refine ⟨_, rfl, ?_, B3.out⟩
    have := HO3.out
    rw [Nat.zero_add, List.nil_append, ← HN.out] at this
    exact this
end Go.Proofs.Yteceinojmdgmeaa

