/- EyF · EyG: joined by a program, for a claim has at most 60 files. -/
import Derived.Test.YtdflkikhmngfiaaGreatDoorZ02
/- A region whose order is drawn: one run in the text's order, checked, tells of all. -/
namespace Go.Proofs.YtdflkikhmngfiaaGreatDoor
open Go.RowKit
set_option linter.unusedVariables false
set_option linter.unusedSimpArgs false
set_option linter.unusedSectionVars false
variable [Sy] [Dc]

structure SR where
  a : Tr AV
  l : List Ev
  c : Nat
  c2 : Nat
noncomputable def flt (lo : Nat) (l lg : List Ev) : List Ev := List.rec (motive := fun _ => List Ev) lg (fun e _ ih => Bool.rec (motive := fun _ => List Ev) ih (e :: ih) (Nat.blt e.name lo)) l
theorem flt_eq (lo : Nat) (lg : List Ev) : ∀ l : List Ev, flt lo l lg = l.filter (fun e => Nat.blt e.name lo) ++ lg
  | [] => rfl
  | e :: l => by
    have h : flt lo (e :: l) lg = Bool.rec (motive := fun _ => List Ev) (flt lo l lg) (e :: flt lo l lg) (Nat.blt e.name lo) := rfl
    rw [h, flt_eq lo lg l]
    cases hb : Nat.blt e.name lo with
    | true => simp [List.filter_cons, hb]
    | false => simp [List.filter_cons, hb]
/-- A step in a scope of its own: all names that stand are told. -/
noncomputable def scp (f : M (Tr AV)) : M SR := fun lo h c lg => R.rec (motive := fun _ => R SR) (fun a h' c' l => .ok ⟨a, l, c, c'⟩ h' c' (flt lo l lg)) (fun w => .bad w) (f c h c [])
theorem scp_ok {f : M (Tr AV)} {lo : Nat} {h : Heap} {c : Nat} {lg : List Ev} {r : SR} {h' : Heap} {c' : Nat} {lg' : List Ev} (e : scp f lo h c lg = .ok r h' c' lg') : f c h c [] = .ok r.a h' c' r.l ∧ r.c = c ∧ r.c2 = c' ∧ lg' = flt lo r.l lg := by
  unfold scp at e
  cases hf : f c h c [] with
  | bad w => rw [hf] at e; cases e
  | ok a h1 c1 l =>
    rw [hf] at e
    injection e with e1 e2 e3 e4
    subst e1 e2 e3 e4
    exact ⟨rfl, rfl, rfl, rfl⟩
theorem scp_run {f : M (Tr AV)} {lo : Nat} {h : Heap} {c : Nat} {lg : List Ev} {a : Tr AV} {h' : Heap} {c' : Nat} {l : List Ev} (e : f c h c [] = .ok a h' c' l) : scp f lo h c lg = .ok ⟨a, l, c, c'⟩ h' c' (flt lo l lg) := by
  unfold scp; rw [e]
theorem blt_iff {a b : Nat} : Nat.blt a b = true ↔ a < b := by simp [Nat.blt_eq]
theorem Loc.scp {f : M (Tr AV)} (hf : Loc f) : Loc (scp f) := by
  intro lo h c lg r h' c' lg' hc e
  obtain ⟨e1, e2, e3, rfl⟩ := scp_ok e
  obtain ⟨l, p1, p2, p3, p4⟩ := hf _ _ _ _ _ _ _ _ (Nat.le_refl c) e1
  rw [List.append_nil] at p1
  subst p1
  have hk := hf.keeps (Nat.le_refl c) (show f c h c [] = .ok r.a h' c' (r.l ++ []) by rw [List.append_nil]; exact e1)
  refine ⟨r.l.filter (fun e => Nat.blt e.name lo), flt_eq _ _ _, p2, fun x hx => blt_iff.1 (List.mem_filter.1 hx).2, fun h2 lg2 hr => ?_⟩
  have hr2 : ∀ n q, Rd r.l c c' n q → vl h n q = vl h2 n q := fun n q hn => hr n q (by
    rcases hn with ⟨x, hx, hq⟩ | hn
    · by_cases hlo : n < lo
      · exact .inl ⟨x, List.mem_filter.2 ⟨hx, blt_iff.2 (by rw [hq.1]; exact hlo)⟩, hq⟩
      · exact .inr ⟨by omega, by have := p3 x hx; rw [hq.1] at this; omega⟩
    · exact .inr ⟨by omega, hn.2⟩)
  obtain ⟨h2', g1, g2, g3⟩ := p4 h2 [] hr2
  rw [List.append_nil] at g1
  refine ⟨h2', ?_, fun n q hw => ?_, fun n q hw => ?_⟩
  · rw [scp_run g1, ← flt_eq, show (⟨r.a, r.l, c, c'⟩ : SR) = r from by rw [← e2, ← e3]]
  · by_cases hw2 : Wt r.l c c' n q
    · exact g2 n q hw2
    · rw [g3 n q hw2, hk n q hw2]
      refine (hr n q ?_).symm
      rcases hw with hw | hw
      · exact .inl hw.cov
      · exact .inr hw
  · refine g3 n q fun hw2 => hw ?_
    rcases hw2 with ⟨x, hx, hw3, hq⟩ | hn
    · by_cases hlo : n < lo
      · exact .inl ⟨x, List.mem_filter.2 ⟨hx, blt_iff.2 (by rw [hq.1]; exact hlo)⟩, hw3, hq⟩
      · exact .inr ⟨by omega, by have := p3 x hx; rw [hq.1] at this; omega⟩
    · exact .inr ⟨by omega, hn.2⟩
structure Rc where
  j : Nat
  c : Nat
  c2 : Nat
  l : List Ev
noncomputable def ordB (msk : Tr Nat) (i j : Nat) : Bool := Option.rec (motive := fun _ => Bool) false (fun m => m.testBit j) (msk.get i)
def over (a b : Ev) : Bool := (a.isW || b.isW) && (Nat.beq a.name b.name && (Nat.beq a.idx 0 || (Nat.beq b.idx 0 || Nat.beq a.idx b.idx)))
def apl (a b : List Ev) : Bool := a.all fun x => b.all fun y => !over x y
def nnm (l : List Ev) (c c2 : Nat) : Bool := l.all fun e => Nat.blt e.name c || Nat.ble c2 e.name
noncomputable def chk (msk : Tr Nat) (i : Nat) (l : List Ev) (recs : List Rc) : Bool :=
  match l with
  | [] => true
  | _ :: _ => recs.all fun r => ordB msk i r.j || (apl r.l l && nnm l r.c r.c2)
noncomputable def rcs (i : Nat) (r : SR) (recs : List Rc) : List Rc :=
  match r.l with
  | [] => Bool.rec (motive := fun _ => List Rc) (⟨i, r.c, r.c2, []⟩ :: recs) recs (Nat.beq r.c r.c2)
  | x :: l => ⟨i, r.c, r.c2, x :: l⟩ :: recs
noncomputable def drw (X : Mach) (ops : Array Oper) (msk : Tr Nat) (l : List Oper) : Nat → List Rc → Tr AV → M (Tr AV) :=
  List.rec (motive := fun _ => Nat → List Rc → Tr AV → M (Tr AV)) (fun _ _ a => ret a) (fun o _ ih i recs a => bnd (scp (stp X ops o a)) fun r => want (chk msk i r.l recs) 12 (ih (i + 1) (rcs i r recs) r.a)) l
theorem drw_cons (X : Mach) (ops : Array Oper) (msk : Tr Nat) (o : Oper) (l : List Oper) (i : Nat) (recs : List Rc) (a : Tr AV) : drw X ops msk (o :: l) i recs a = bnd (scp (stp X ops o a)) fun r => want (chk msk i r.l recs) 12 (drw X ops msk l (i + 1) (rcs i r recs) r.a) := rfl
theorem Loc.drw {X : Mach} (hX : ∀ o args, Loc (X.op o args)) (ops : Array Oper) (msk : Tr Nat) : ∀ (l : List Oper) (i : Nat) (recs : List Rc) (a : Tr AV), Loc (drw X ops msk l i recs a)
  | [], _, _, a => Loc.ret a
  | o :: l, i, recs, a => Loc.bnd (Loc.scp (Loc.stp hX ops o a)) fun r => Loc.want _ _ (Loc.drw hX ops msk l _ _ _)
def dis (lj lk : List Ev) (c c2 : Nat) : Prop := apl lj lk = true ∧ nnm lk c c2 = true
theorem want_ok {β : Type} {b : Bool} {why : Nat} {g : M β} {lo : Nat} {h : Heap} {c : Nat} {lg : List Ev} {x : β} {h' : Heap} {c' : Nat} {lg' : List Ev} (e : want b why g lo h c lg = .ok x h' c' lg') : b = true ∧ g lo h c lg = .ok x h' c' lg' := by
  cases b with
  | false => cases e
  | true => exact ⟨rfl, e⟩
theorem drw_trace {X : Mach} {ops : Array Oper} {msk : Tr Nat} : ∀ (l : List Oper) (i : Nat) (recs : List Rc) (a : Tr AV) lo h c lg a' h' c' lg', drw X ops msk l i recs a lo h c lg = .ok a' h' c' lg' →
    ∀ (A : Nat → Tr AV) (H : Nat → Heap) (C : Nat → Nat) (LG : Nat → List Ev), A i = a → H i = h → C i = c → (∀ j, j < i → (LG j = [] ∧ C j = C (j + 1)) ∨ ∃ r ∈ recs, r.j = j ∧ r.l = LG j ∧ r.c = C j ∧ r.c2 = C (j + 1)) →
    ∃ (A' : Nat → Tr AV) (H' : Nat → Heap) (C' : Nat → Nat) (LG' : Nat → List Ev), (∀ j, j ≤ i → A' j = A j ∧ H' j = H j ∧ C' j = C j) ∧ (∀ j, j < i → LG' j = LG j) ∧ A' (i + l.length) = a' ∧ H' (i + l.length) = h' ∧ C' (i + l.length) = c' ∧
      ∀ k, k < l.length → ∃ o, l[k]? = some o ∧ stp X ops o (A' (i + k)) (C' (i + k)) (H' (i + k)) (C' (i + k)) [] = .ok (A' (i + k + 1)) (H' (i + k + 1)) (C' (i + k + 1)) (LG' (i + k)) ∧
        ∀ j, j < i + k → ordB msk (i + k) j = true ∨ dis (LG' j) (LG' (i + k)) (C' j) (C' (j + 1)) := by
  intro l
  induction l with
  | nil =>
    intro i recs a lo h c lg a' h' c' lg' e A H C LG hA hH hC _
    have e : ret a lo h c lg = .ok a' h' c' lg' := e
    injection e with e1 e2 e3 e4
    subst e1 e2 e3 e4
    exact ⟨A, H, C, LG, fun j _ => ⟨rfl, rfl, rfl⟩, fun j _ => rfl, hA, hH, hC, fun k hk => by simp at hk⟩
  | cons o l ih =>
    intro i recs a lo h c lg a' h' c' lg' e A H C LG hA hH hC hrec
    rw [drw_cons] at e
    obtain ⟨r, h1, c1, lg1, e1, e2⟩ := bnd_ok e
    obtain ⟨hchk, e2⟩ := want_ok e2
    obtain ⟨e3, e4, e5, e6⟩ := scp_ok e1
    let A1 : Nat → Tr AV := fun k => if k = i + 1 then r.a else A k
    let H1 : Nat → Heap := fun k => if k = i + 1 then h1 else H k
    let C1 : Nat → Nat := fun k => if k = i + 1 then c1 else C k
    let L1 : Nat → List Ev := fun k => if k = i then r.l else LG k
    have a1 : ∀ j, j ≤ i → A1 j = A j ∧ H1 j = H j ∧ C1 j = C j := fun j hj => ⟨if_neg (by omega), if_neg (by omega), if_neg (by omega)⟩
    have l1 : ∀ j, j < i → L1 j = LG j := fun j hj => if_neg (by omega)
    have hrec1 : ∀ j, j < i + 1 → (L1 j = [] ∧ C1 j = C1 (j + 1)) ∨ ∃ x ∈ rcs i r recs, x.j = j ∧ x.l = L1 j ∧ x.c = C1 j ∧ x.c2 = C1 (j + 1) := by
      intro j hj
      by_cases hji : j = i
      · subst hji
        have f1 : L1 j = r.l := if_pos rfl
        have f2 : C1 j = r.c := ((a1 j (Nat.le_refl _)).2.2.trans hC).trans e4.symm
        have f3 : C1 (j + 1) = r.c2 := (if_pos rfl : C1 (j + 1) = c1).trans e5.symm
        rw [f1, f2, f3]
        unfold rcs
        cases hl : r.l with
        | nil =>
          dsimp only
          cases hb : Nat.beq r.c r.c2 with
          | true => exact .inl ⟨rfl, Nat.eq_of_beq_eq_true hb⟩
          | false => exact .inr ⟨⟨j, r.c, r.c2, []⟩, by simp, rfl, rfl, rfl, rfl⟩
        | cons x m => exact .inr ⟨⟨j, r.c, r.c2, x :: m⟩, by simp, rfl, rfl, rfl, rfl⟩
      · have hj2 : j < i := by omega
        rw [l1 j hj2, (a1 j (by omega)).2.2, (a1 (j + 1) (by omega)).2.2]
        rcases hrec j hj2 with hh | ⟨x, hx, hh⟩
        · exact .inl hh
        · refine .inr ⟨x, ?_, hh⟩
          unfold rcs
          cases hl : r.l with
          | nil =>
            dsimp only
            cases hb : Nat.beq r.c r.c2 with
            | true => exact hx
            | false => exact List.mem_cons_of_mem _ hx
          | cons y m => exact List.mem_cons_of_mem _ hx
    obtain ⟨A', H', C', LG', g1, g2, g3, g4, g5, g6⟩ := ih (i + 1) _ _ _ _ _ _ _ _ _ _ e2 A1 H1 C1 L1 (if_pos rfl) (if_pos rfl) (if_pos rfl) hrec1
    refine ⟨A', H', C', LG', fun j hj => ?_, fun j hj => (g2 j (by omega)).trans (l1 j hj), ?_, ?_, ?_, ?_⟩
    · obtain ⟨k1, k2, k3⟩ := g1 j (by omega)
      obtain ⟨m1, m2, m3⟩ := a1 j hj
      exact ⟨k1.trans m1, k2.trans m2, k3.trans m3⟩
    · rw [List.length_cons, show i + (l.length + 1) = i + 1 + l.length by omega]; exact g3
    · rw [List.length_cons, show i + (l.length + 1) = i + 1 + l.length by omega]; exact g4
    · rw [List.length_cons, show i + (l.length + 1) = i + 1 + l.length by omega]; exact g5
    intro k hk
    cases k with
    | zero =>
      refine ⟨o, rfl, ?_, fun j hj => ?_⟩
      · obtain ⟨k1, k2, k3⟩ := g1 i (by omega)
        obtain ⟨k4, k5, k6⟩ := g1 (i + 1) (by omega)
        obtain ⟨m1, m2, m3⟩ := a1 i (by omega)
        rw [Nat.add_zero, k1, k2, k3, m1, m2, m3, hA, hH, hC, k4, k5, k6, g2 i (by omega)]
        show stp X ops o a c h c [] = .ok (if i + 1 = i + 1 then r.a else A (i + 1)) (if i + 1 = i + 1 then h1 else H (i + 1)) (if i + 1 = i + 1 then c1 else C (i + 1)) (if i = i then r.l else LG i)
        rw [if_pos rfl, if_pos rfl, if_pos rfl, if_pos rfl]
        exact e3
      · rw [Nat.add_zero] at hj ⊢
        rw [g2 i (by omega), g2 j (by omega), (g1 j (by omega)).2.2, (g1 (j + 1) (by omega)).2.2]
        have f1 : L1 i = r.l := if_pos rfl
        rw [f1, l1 j hj, (a1 j (by omega)).2.2, (a1 (j + 1) (by omega)).2.2]
        cases hl : r.l with
        | nil => exact .inr ⟨by unfold apl; simp, by unfold nnm; simp⟩
        | cons y m =>
          rcases hrec j hj with ⟨hh1, hh2⟩ | ⟨x, hx, rfl, hh2, hh3, hh4⟩
          · refine .inr ⟨by rw [hh1]; rfl, ?_⟩
            unfold nnm
            rw [List.all_eq_true]
            intro z _
            rw [← hh2, Bool.or_eq_true, blt_iff, Nat.ble_eq]
            omega
          · rw [hl] at hchk
            have hchk : (recs.all fun r => ordB msk i r.j || (apl r.l (y :: m) && nnm (y :: m) r.c r.c2)) = true := hchk
            have := List.all_eq_true.1 hchk x hx
            rw [Bool.or_eq_true, Bool.and_eq_true] at this
            rcases this with h1 | ⟨h1, h2⟩
            · exact .inl h1
            · exact .inr ⟨by rw [← hh2]; exact h1, by rw [← hh3, ← hh4]; exact h2⟩
    | succ k =>
      obtain ⟨o2, p1, p2, p3⟩ := g6 k (by simpa using hk)
      refine ⟨o2, by simpa using p1, ?_, ?_⟩
      · rw [show i + (k + 1) = i + 1 + k by omega]; exact p2
      · rw [show i + (k + 1) = i + 1 + k by omega]; exact p3
/-- What is checked of a region once. -/
noncomputable def statOK (N : Nat) (ops : Array Oper) : Bool :=
  ops.toList.zipIdx.all fun p => (p.1.after.toList.all fun e => !Region.binds .any e || Nat.blt e.on p.2) && (Option.rec (motive := fun _ => Bool) true (fun d => Nat.blt d N) p.1.dst &&
    (List.range p.2).all fun j => ordB (masks ops.toList 0 .leaf) p.2 j || (ops.getD j default).apart ops p.1)
theorem statOK_spec {N : Nat} {ops : Array Oper} (h : statOK N ops = true) {i : Nat} {o : Oper} (ho : ops[i]? = some o) :
    (∀ e ∈ o.after.toList, Region.binds .any e = true → e.on < i) ∧ (∀ d, o.dst = some d → d < N) ∧ ∀ j x, j < i → ops[j]? = some x → ordB (masks ops.toList 0 .leaf) i j = true ∨ x.apart ops o = true := by
  unfold statOK at h
  have hm : (o, i) ∈ ops.toList.zipIdx := by
    rw [List.mk_mem_zipIdx_iff_getElem?]
    simpa using ho
  have := List.all_eq_true.1 h _ hm
  rw [Bool.and_eq_true, Bool.and_eq_true] at this
  obtain ⟨h1, h2, h3⟩ := this
  refine ⟨fun e he hb => ?_, fun d hd => ?_, fun j x hj hx => ?_⟩
  · have := List.all_eq_true.1 h1 e he
    rw [hb] at this
    exact blt_iff.1 this
  · dsimp only at h2
    rw [hd] at h2
    exact blt_iff.1 h2
  · have := List.all_eq_true.1 h3 j (List.mem_range.2 hj)
    rw [Bool.or_eq_true] at this
    have hg : ops.getD j default = x := by
      rw [Array.getD_eq_getD_getElem?, hx]; rfl
    rw [hg] at this
    exact this
end Go.Proofs.YtdflkikhmngfiaaGreatDoor


/- A region whose order is drawn, in the program. -/
namespace Go.Proofs.YtdflkikhmngfiaaGreatDoor
open Go.RowKit
set_option linter.unusedVariables false
set_option linter.unusedSimpArgs false
set_option linter.unusedSectionVars false
variable [Sy] [Dc]

theorem ready_iff {ops : Array Oper} {listed : Array Bool} {i : Nat} : i ∈ Region.ready .any ops listed ↔ i < ops.size ∧ listed.getD i true = false ∧ ∀ o, ops[i]? = some o → ∀ e ∈ o.after.toList, Region.binds .any e = true → listed.getD e.on false = true := by
  unfold Region.ready
  rw [List.mem_filter, List.mem_range, Bool.and_eq_true]
  constructor
  · rintro ⟨h1, h2, h3⟩
    refine ⟨h1, by simpa using h2, fun o ho e he hb => ?_⟩
    rw [ho] at h3
    have h3 : o.after.all (fun e => !Region.binds .any e || listed.getD e.on false) = true := h3
    rw [← Array.all_toList] at h3
    have := List.all_eq_true.1 h3 e he
    rw [hb] at this
    exact this
  · rintro ⟨h1, h2, h3⟩
    refine ⟨h1, by simpa using h2, ?_⟩
    obtain ⟨o, ho⟩ : ∃ o, ops[i]? = some o := ⟨ops[i], Array.getElem?_eq_getElem h1⟩
    rw [ho]
    show o.after.all (fun e => !Region.binds .any e || listed.getD e.on false) = true
    rw [← Array.all_toList, List.all_eq_true]
    intro e he
    cases hb : Region.binds .any e with
    | false => rfl
    | true => exact h3 o ho e he hb
theorem over_of {a b : Ev} {n : Nat} {q : Option Nat} (ha : a.cov n q) (hb : b.cov n q) (hw : a.isW = true ∨ b.isW = true) : over a b = true := by
  unfold over
  obtain ⟨h1, h2⟩ := ha
  obtain ⟨h3, h4⟩ := hb
  rw [Bool.and_eq_true, Bool.and_eq_true, Bool.or_eq_true, Bool.or_eq_true, Bool.or_eq_true, Nat.beq_eq, Nat.beq_eq, Nat.beq_eq, Nat.beq_eq]
  refine ⟨hw, h1.trans h3.symm, ?_⟩
  rcases h2 with h2 | h2
  · exact .inl h2
  rcases h4 with h4 | h4
  · exact .inr (.inl h4)
  · have : a.idx - 1 = b.idx - 1 := Option.some.inj (h2.symm.trans h4)
    by_cases h5 : a.idx = 0
    · exact .inl h5
    by_cases h6 : b.idx = 0
    · exact .inr (.inl h6)
    · exact .inr (.inr (by omega))
theorem apl_no {la lb : List Ev} (h : apl la lb = true) {a b : Ev} (ha : a ∈ la) (hb : b ∈ lb) : over a b = false := by
  unfold apl at h
  have := List.all_eq_true.1 (List.all_eq_true.1 h a ha) b hb
  simpa using this
theorem nnm_no {l : List Ev} {c c2 : Nat} (h : nnm l c c2 = true) {e : Ev} (he : e ∈ l) (h1 : c ≤ e.name) (h2 : e.name < c2) : False := by
  unfold nnm at h
  have := List.all_eq_true.1 h e he
  rw [Bool.or_eq_true, blt_iff, Nat.ble_eq] at this
  omega
theorem Below.drew_iff {B : Nat} {w w' : World} (h : Below B w.drew w') : Below B w w' := ⟨h.os, h.tape, h.output, h.size, h.block⟩
section
variable {P : Program} {B : Nat} {ρ0 : Pm} {X : Mach} {ops : Array Oper} {N : Nat}
set_option maxRecDepth 10000 in
theorem draw_sound {D : List Deferred} (hX : ∀ o args, Loc (X.op o args)) (hop : OpOK P B ρ0 X ops N) (hst : statOK N ops = true) {a : Tr AV} {lo : Nat} {h : Heap} {c : Nat} {lg : List Ev} {a' : Tr AV} {h' : Heap} {c' : Nat} {lg' : List Ev}
    (e : drw X ops (masks ops.toList 0 .leaf) ops.toList 0 [] a lo h c lg = .ok a' h' c' lg') {ρ : Pm} {act : Act} {w : World} {Q : Exit → Act → World → Prop} (hz : ρ0.le ρ) (hr : Rep B ρ h w) (hf : Frm D ρ N a act)
    (hk : ∀ ρ' act' w', ρ.le ρ' → Rep B ρ' h' w' → Frm D ρ' N a' act' → Below B w w' → Q .normal act' w') : wpAny P .any ops Q ops.size (Array.replicate ops.size false) act w := by
  obtain ⟨A, H, C, LG, g1, _, g3, g4, g5, g6⟩ := drw_trace ops.toList 0 [] a lo h c lg a' h' c' lg' e (fun _ => a) (fun _ => h) (fun _ => c) (fun _ => []) rfl rfl rfl (fun j hj => by omega)
  obtain ⟨gA, gH, gC⟩ := g1 0 (Nat.le_refl _)
  have hlen : ops.toList.length = ops.size := by simp
  rw [Nat.zero_add, hlen] at g3 g4 g5
  have run : ∀ i, i < ops.size → ∃ o, ops[i]? = some o ∧ stp X ops o (A i) (C i) (H i) (C i) [] = .ok (A (i + 1)) (H (i + 1)) (C (i + 1)) (LG i) ∧ ∀ j, j < i → ordB (masks ops.toList 0 .leaf) i j = true ∨ dis (LG j) (LG i) (C j) (C (j + 1)) := fun i hi => by
    obtain ⟨o, h1, h2, h3⟩ := g6 i (by rw [hlen]; exact hi)
    rw [Nat.zero_add] at h2 h3
    exact ⟨o, by simpa using h1, h2, h3⟩
  have loc : ∀ i, i < ops.size → C i ≤ C (i + 1) ∧ (∀ x ∈ LG i, x.name < C i) := fun i hi => by
    obtain ⟨o, h1, h2, _⟩ := run i hi
    obtain ⟨l, p1, p2, p3, _⟩ := Loc.stp hX ops o (A i) _ _ _ _ _ _ _ _ (Nat.le_refl _) h2
    rw [List.append_nil] at p1
    rw [p1]
    exact ⟨p2, p3⟩
  have cmono : ∀ j i, j ≤ i → i ≤ ops.size → C j ≤ C i := by
    intro j i hji
    induction hji with
    | refl => intro _; exact Nat.le_refl _
    | step hm ih => intro hi; exact Nat.le_trans (ih (by omega)) (loc _ (by omega)).1
  -- the heap's places
  let v : Nat → (Nat × Option Nat) → At := fun i L => vl (H i) L.1 L.2
  let Rh : Nat → (Nat × Option Nat) → Prop := fun i L => Rd (LG i) (C i) (C (i + 1)) L.1 L.2
  let Wh : Nat → (Nat × Option Nat) → Prop := fun i L => Wt (LG i) (C i) (C (i + 1)) L.1 L.2
  let ord : Nat → Nat → Prop := fun i j => ordB (masks ops.toList 0 .leaf) i j = true
  have Th : ∀ i, i < ops.size → ∀ L, ¬ Wh i L → v (i + 1) L = v i L := fun i hi L hw => by
    obtain ⟨o, h1, h2, _⟩ := run i hi
    exact (Loc.stp hX ops o (A i)).keeps (Nat.le_refl _) (show stp X ops o (A i) (C i) (H i) (C i) [] = .ok (A (i + 1)) (H (i + 1)) (C (i + 1)) (LG i ++ []) by rw [List.append_nil]; exact h2) _ _ hw
  have conh : ∀ j i, j < i → i < ops.size → ¬ ord i j → ∀ L, (Wh j L → ¬ Rh i L ∧ ¬ Wh i L) ∧ (Wh i L → ¬ Rh j L) := fun j i hji hi ho L => by
    obtain ⟨o, h1, h2, h3⟩ := run i hi
    obtain ⟨d1, d2⟩ := (h3 j hji).resolve_left ho
    have m1 := cmono (j + 1) i (by omega) (by omega)
    have lj := loc j (by omega)
    have li := loc i hi
    have key1 : ∀ x ∈ LG i, ∀ q, x.cov L.1 q → ¬ (C j ≤ L.1 ∧ L.1 < C (j + 1)) := fun x hx q hq hh => nnm_no d2 hx (by rw [hq.1]; exact hh.1) (by rw [hq.1]; exact hh.2)
    have nr : Wh j L → ¬ Rh i L := fun hw hR => by
      rcases hw with ⟨x, hx, hxw, hxq⟩ | hw
      · rcases hR with ⟨y, hy, hyq⟩ | hR
        · have := apl_no d1 hx hy
          rw [over_of hxq hyq (.inl hxw)] at this
          cases this
        · have := lj.2 x hx; rw [hxq.1] at this; omega
      · rcases hR with ⟨y, hy, hyq⟩ | hR
        · exact key1 y hy _ hyq hw
        · omega
    refine ⟨fun hw => ⟨nr hw, fun hW => nr hw (by rcases hW with h | h; exact .inl h.cov; exact .inr h)⟩, fun hw hR => ?_⟩
    rcases hw with ⟨x, hx, hxw, hxq⟩ | hw
    · rcases hR with ⟨y, hy, hyq⟩ | hR
      · have := apl_no d1 hy hx
        rw [over_of hyq hxq (.inr hxw)] at this
        cases this
      · exact key1 x hx _ hxq hR
    · rcases hR with ⟨y, hy, hyq⟩ | hR
      · have := lj.2 y hy; rw [hyq.1] at this; omega
      · omega
  -- the slots
  let vt : Nat → Nat → Option AV := fun i t => (A i).get t
  let Rt : Nat → Nat → Prop := fun i t => ∀ o, ops[i]? = some o → t ∈ o.looksAt ops
  let Wt' : Nat → Nat → Prop := fun i t => ∀ o, ops[i]? = some o → o.dst = some t
  have Tt : ∀ i, i < ops.size → ∀ t, ¬ Wt' i t → vt (i + 1) t = vt i t := fun i hi t hw => by
    obtain ⟨o, h1, h2, _⟩ := run i hi
    obtain ⟨b', _, _, h4⟩ := stp_frame (b := A i) (fun _ _ => rfl) h2
    exact (h4 t (fun hd => hw fun o2 ho2 => by rw [h1] at ho2; injection ho2 with ho2; rw [← ho2]; exact hd)).2
  have cont : ∀ j i, j < i → i < ops.size → ¬ ord i j → ∀ t, (Wt' j t → ¬ Rt i t ∧ ¬ Wt' i t) ∧ (Wt' i t → ¬ Rt j t) := fun j i hji hi ho t => by
    obtain ⟨o, h1, _, _⟩ := run i hi
    obtain ⟨x, hx, _, _⟩ := run j (by omega)
    obtain ⟨_, _, hs⟩ := statOK_spec hst h1
    obtain ⟨s1, s2, s3⟩ := Oper.apart_spec ((hs j x hji hx).resolve_left ho)
    refine ⟨fun hw => ⟨fun hR => s1 t (hw x hx) (hR o h1), fun hW => s2 t (hw x hx) (hW o h1)⟩, fun hw hR => s3 t (hw o h1) (hR x hx)⟩
  have clo : ∀ D : Nat → Prop, (∀ x o, ops[x]? = some o → D x → ∀ e ∈ o.after.toList, Region.binds .any e = true → D e.on) → ∀ k j, D k → ord k j → D j := fun D hcl k j hD ho => by
    have ho : ordB (masks ops.toList 0 .leaf) k j = true := ho
    unfold ordB at ho
    cases hm : (masks ops.toList 0 .leaf).get k with
    | none => rw [hm] at ho; cases ho
    | some m =>
      rw [hm] at ho
      exact masks_spec (ops := ops.toList) ops.toList 0 .leaf rfl (fun k m hk => by rw [Tr.get_leaf] at hk; cases hk) k m hm D (fun x o hx => hcl x o (by simpa using hx)) hD j ho
  have main : ∀ fuel (listed : Array Bool) (U : List Nat) (a2 : Tr AV) (h2 : Heap) (ρ2 : Pm) (act2 : Act) (w2 : World), listed.size = ops.size → U.length ≤ fuel → (∀ j, j < ops.size → listed.getD j true = false → j ∈ U) →
      (∀ x o, ops[x]? = some o → listed.getD x false = true → ∀ e ∈ o.after.toList, Region.binds .any e = true → listed.getD e.on false = true) →
      InvD ops.size v Wh (fun j => listed.getD j false = true) (fun L => vl h2 L.1 L.2) → InvD ops.size vt Wt' (fun j => listed.getD j false = true) (fun t => a2.get t) → ρ.le ρ2 → Rep B ρ2 h2 w2 → Frm D ρ2 N a2 act2 → Below B w w2 → wpAny P .any ops Q fuel listed act2 w2 := by
    have bf : ∀ (listed : Array Bool), listed.size = ops.size → ∀ j, j < ops.size → (listed.getD j true = false ↔ ¬ listed.getD j false = true) := fun listed hs j hj => by
      rw [Array.getD_eq_getD_getElem?, Array.getD_eq_getD_getElem?, Array.getElem?_eq_getElem (by omega)]
      simp
    intro fuel
    induction fuel with
    | zero =>
      intro listed U a2 h2 ρ2 act2 w2 hs hU hU2 hcl iH iT hle hr2 hf2 hb2
      have hall : ∀ j, j < ops.size → listed.getD j false = true := fun j hj => by
        cases hx : listed.getD j false with
        | true => rfl
        | false =>
          have hx2 := (bf listed hs j hj).2 (by rw [hx]; simp)
          have := hU2 j hj hx2
          rw [List.eq_nil_of_length_eq_zero (Nat.le_zero.1 hU)] at this
          cases this
      refine ⟨?_, hk ρ2 act2 w2 hle ?_ ?_ hb2⟩
      · apply List.eq_nil_iff_forall_not_mem.2
        intro i hi
        obtain ⟨i1, i2, _⟩ := ready_iff.1 hi
        exact ((bf listed hs i i1).1 i2) (hall i i1)
      · have hv := inv_end Th iH hall
        rw [← g4]
        exact hr2.same (fun n => (vl_m (hv (n, none))).symm) (fun n i => (vl_c (hv (n, some i))).symm)
      · have hv := inv_end Tt iT hall
        rw [← g3]
        exact hf2.same (fun t => (hv t).symm)
    | succ fuel ih =>
      intro listed U a2 h2 ρ2 act2 w2 hs hU hU2 hcl iH iT hle hr2 hf2 hb2
      refine ⟨fun hnil => ?_, fun i hi => ?_⟩
      · have hall : ∀ j, j < ops.size → listed.getD j false = true := fun j => by
          induction j using Nat.strongRecOn with
          | _ j ihj =>
            intro hj
            cases hx : listed.getD j false with
            | true => rfl
            | false =>
              have : j ∈ Region.ready .any ops listed := ready_iff.2 ⟨hj, (bf listed hs j hj).2 (by rw [hx]; simp), fun o ho e he hb => by
                have := (statOK_spec hst ho).1 e he hb
                exact ihj _ this (by omega)⟩
              rw [hnil] at this
              cases this
        refine hk ρ2 act2 w2 hle ?_ ?_ hb2
        · have hv := inv_end Th iH hall
          rw [← g4]
          exact hr2.same (fun n => (vl_m (hv (n, none))).symm) (fun n i => (vl_c (hv (n, some i))).symm)
        · have hv := inv_end Tt iT hall
          rw [← g3]
          exact hf2.same (fun t => (hv t).symm)
      · obtain ⟨i1, i2, i3⟩ := ready_iff.1 hi
        obtain ⟨o, ho, hrun, _⟩ := run i i1
        have hni : ¬ listed.getD i false = true := (bf listed hs i i1).1 i2
        have hcl2 : ∀ k, k < ops.size → listed.getD k false = true → ∀ j, j < ops.size → ord k j → listed.getD j false = true := fun k hk2 hD j _ hoj => clo (fun j => listed.getD j false = true) hcl k j hD hoj
        have hp : ∀ j, j < i → ord i j → listed.getD j false = true := fun j hj hoj => by
          have := clo (fun x => listed.getD x false = true ∨ x = i) (fun x o2 hx hD e2 he2 hb2 => by
            rcases hD with hD | rfl
            · exact .inl (hcl x o2 hx hD e2 he2 hb2)
            · exact .inl (i3 o2 hx e2 he2 hb2)) i j (.inr rfl) hoj
          rcases this with h | h
          · exact h
          · omega
        have aH := inv_agree Th conh iH i1 hni hp hcl2
        have aT := inv_agree Tt cont iT i1 hni hp hcl2
        obtain ⟨b', hb', q1, q2⟩ := stp_frame (b := a2) (fun t ht => aT t (fun o2 ho2 => by rw [ho] at ho2; injection ho2 with ho2; rw [← ho2]; exact ht)) hrun
        obtain ⟨l, p1, p2, p3, p4⟩ := Loc.stp hX ops o a2 _ _ _ _ _ _ _ _ (Nat.le_refl _) hb'
        rw [List.append_nil] at p1
        subst p1
        obtain ⟨h2', r1, r2, r3⟩ := p4 h2 [] (fun n q hn => (aH (n, q) hn).symm)
        refine hop i o ho _ _ _ _ _ _ _ _ _ r1 D ρ2 act2 w2 _ Q (hz.trans hle) hr2 hf2 fun ρ3 act3 w3 hle3 hr3 hf3 hb3 => ?_
        have hset : ∀ j b, (listed.setIfInBounds i true).getD j b = if j = i then true else listed.getD j b := fun j b => by
          rw [Array.getD_eq_getD_getElem?, Array.getD_eq_getD_getElem?, Array.getElem?_setIfInBounds]
          by_cases hj : i = j
          · subst hj
            rw [if_pos rfl, if_pos rfl, if_pos (by omega)]; rfl
          · rw [if_neg hj, if_neg (fun e => hj e.symm)]
        have hD' : ∀ j, j < ops.size → ((listed.setIfInBounds i true).getD j false = true ↔ listed.getD j false = true ∨ j = i) := fun j _ => by
          rw [hset]
          by_cases hj : j = i
          · rw [if_pos hj]; simp [hj]
          · rw [if_neg hj]; simp [hj]
        refine ih (listed.setIfInBounds i true) (U.erase i) b' h2' ρ3 act3 w3 (by simpa using hs) ?_ ?_ ?_ ?_ ?_ (hle.trans hle3) hr3 hf3 (hb2.trans hb3)
        · have hm := hU2 i i1 i2
          rw [List.length_erase_of_mem hm]
          omega
        · intro j hj hx
          rw [hset] at hx
          by_cases hji : j = i
          · rw [if_pos hji] at hx; cases hx
          · rw [if_neg hji] at hx
            exact (List.mem_erase_of_ne hji).2 (hU2 j hj hx)
        · intro x o2 hx hD e2 he2 hb4
          rw [hset] at hD ⊢
          split
          · rfl
          · by_cases hxi : x = i
            · subst hxi
              exact i3 o2 hx e2 he2 hb4
            · rw [if_neg hxi] at hD
              exact hcl x o2 hx hD e2 he2 hb4
        · exact inv_step conh iH i1 hni hcl2 hD' (fun L hw => r2 L.1 L.2 hw) (fun L hw => r3 L.1 L.2 hw)
        · refine inv_step cont iT i1 hni hcl2 hD' (fun t hw => q1 t (hw o ho)) (fun t hw => (q2 t (fun hd => hw fun o2 ho2 => ?_)).1)
          rw [ho] at ho2
          injection ho2 with ho2
          rw [← ho2]
          exact hd
  have hf0 : ∀ j b, j < ops.size → (Array.replicate ops.size false).getD j b = false := fun j b hj => by
    rw [Array.getD_eq_getD_getElem?, Array.getElem?_replicate, if_pos hj]; rfl
  have hf1 : ∀ j, (Array.replicate ops.size false).getD j false = false := fun j => by
    rw [Array.getD_eq_getD_getElem?, Array.getElem?_replicate]
    split <;> rfl
  have sH := inv_start (n := ops.size) (v := v) (W := Wh) (D := fun j => (Array.replicate ops.size false).getD j false = true) (fun j hj => by rw [hf0 j _ hj]; simp)
  have sT := inv_start (n := ops.size) (v := vt) (W := Wt') (D := fun j => (Array.replicate ops.size false).getD j false = true) (fun j hj => by rw [hf0 j _ hj]; simp)
  have e0 : H 0 = h := gH
  have e1 : A 0 = a := gA
  refine main ops.size (Array.replicate ops.size false) (List.range ops.size) (A 0) (H 0) ρ act w (by simp) (by simp) (fun j hj _ => List.mem_range.2 hj) (fun x o hx hD => by rw [hf1] at hD; cases hD) sH sT (Pm.le.refl ρ) (e0 ▸ hr) (e1 ▸ hf) (Below.refl _ _)
end
end Go.Proofs.YtdflkikhmngfiaaGreatDoor

