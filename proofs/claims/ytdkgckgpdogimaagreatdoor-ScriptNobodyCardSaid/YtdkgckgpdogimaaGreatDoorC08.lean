/- A region whose order is drawn: one run in the text's order, checked, tells of all. -/
import Derived.Test.YtdkgckgpdogimaaGreatDoorC07
namespace Go.Proofs.YtdkgckgpdogimaaGreatDoor
open Go.RowKit
set_option linter.unusedVariables false
set_option linter.unusedSimpArgs false
set_option linter.unusedSectionVars false
variable [Sy] [Dc]

structure SR where
  a : Tr AV
  l : List Ev
  c : Nat
  c2 : Nat
noncomputable def flt (lo : Nat) (l lg : List Ev) : List Ev := List.rec (motive := fun _ => List Ev) lg (fun e _ ih => Bool.rec (motive := fun _ => List Ev) ih (e :: ih) (Nat.blt e.name lo)) l
theorem flt_eq (lo : Nat) (lg : List Ev) : ∀ l : List Ev, flt lo l lg = l.filter (fun e => Nat.blt e.name lo) ++ lg
  | [] => rfl
  | e :: l => by
    have h : flt lo (e :: l) lg = Bool.rec (motive := fun _ => List Ev) (flt lo l lg) (e :: flt lo l lg) (Nat.blt e.name lo) := rfl
    rw [h, flt_eq lo lg l]
    cases hb : Nat.blt e.name lo with
    | true => simp [List.filter_cons, hb]
    | false => simp [List.filter_cons, hb]
/-- A step in a scope of its own: all names that stand are told. -/
noncomputable def scp (f : M (Tr AV)) : M SR := fun lo h c lg => R.rec (motive := fun _ => R SR) (fun a h' c' l => .ok ⟨a, l, c, c'⟩ h' c' (flt lo l lg)) (fun w => .bad w) (f c h c [])
theorem scp_ok {f : M (Tr AV)} {lo : Nat} {h : Heap} {c : Nat} {lg : List Ev} {r : SR} {h' : Heap} {c' : Nat} {lg' : List Ev} (e : scp f lo h c lg = .ok r h' c' lg') : f c h c [] = .ok r.a h' c' r.l ∧ r.c = c ∧ r.c2 = c' ∧ lg' = flt lo r.l lg := by
  unfold scp at e
  cases hf : f c h c [] with
  | bad w => rw [hf] at e; cases e
  | ok a h1 c1 l =>
    rw [hf] at e
    injection e with e1 e2 e3 e4
    subst e1 e2 e3 e4
    exact ⟨rfl, rfl, rfl, rfl⟩
theorem scp_run {f : M (Tr AV)} {lo : Nat} {h : Heap} {c : Nat} {lg : List Ev} {a : Tr AV} {h' : Heap} {c' : Nat} {l : List Ev} (e : f c h c [] = .ok a h' c' l) : scp f lo h c lg = .ok ⟨a, l, c, c'⟩ h' c' (flt lo l lg) := by
  unfold scp; rw [e]
theorem blt_iff {a b : Nat} : Nat.blt a b = true ↔ a < b := by simp [Nat.blt_eq]
theorem Loc.scp {f : M (Tr AV)} (hf : Loc f) : Loc (scp f) := by
  intro lo h c lg r h' c' lg' hc e
  obtain ⟨e1, e2, e3, rfl⟩ := scp_ok e
  obtain ⟨l, p1, p2, p3, p4⟩ := hf _ _ _ _ _ _ _ _ (Nat.le_refl c) e1
  rw [List.append_nil] at p1
  subst p1
  have hk := hf.keeps (Nat.le_refl c) (show f c h c [] = .ok r.a h' c' (r.l ++ []) by rw [List.append_nil]; exact e1)
  refine ⟨r.l.filter (fun e => Nat.blt e.name lo), flt_eq _ _ _, p2, fun x hx => blt_iff.1 (List.mem_filter.1 hx).2, fun h2 lg2 hr => ?_⟩
  have hr2 : ∀ n q, Rd r.l c c' n q → vl h n q = vl h2 n q := fun n q hn => hr n q (by
    rcases hn with ⟨x, hx, hq⟩ | hn
    · by_cases hlo : n < lo
      · exact .inl ⟨x, List.mem_filter.2 ⟨hx, blt_iff.2 (by rw [hq.1]; exact hlo)⟩, hq⟩
      · exact .inr ⟨by omega, by have := p3 x hx; rw [hq.1] at this; omega⟩
    · exact .inr ⟨by omega, hn.2⟩)
  obtain ⟨h2', g1, g2, g3⟩ := p4 h2 [] hr2
  rw [List.append_nil] at g1
  refine ⟨h2', ?_, fun n q hw => ?_, fun n q hw => ?_⟩
  · rw [scp_run g1, ← flt_eq, show (⟨r.a, r.l, c, c'⟩ : SR) = r from by rw [← e2, ← e3]]
  · by_cases hw2 : Wt r.l c c' n q
    · exact g2 n q hw2
    · rw [g3 n q hw2, hk n q hw2]
      refine (hr n q ?_).symm
      rcases hw with hw | hw
      · exact .inl hw.cov
      · exact .inr hw
  · refine g3 n q fun hw2 => hw ?_
    rcases hw2 with ⟨x, hx, hw3, hq⟩ | hn
    · by_cases hlo : n < lo
      · exact .inl ⟨x, List.mem_filter.2 ⟨hx, blt_iff.2 (by rw [hq.1]; exact hlo)⟩, hw3, hq⟩
      · exact .inr ⟨by omega, by have := p3 x hx; rw [hq.1] at this; omega⟩
    · exact .inr ⟨by omega, hn.2⟩
structure Rc where
  j : Nat
  c : Nat
  c2 : Nat
  l : List Ev
noncomputable def ordB (msk : Tr Nat) (i j : Nat) : Bool := Option.rec (motive := fun _ => Bool) false (fun m => m.testBit j) (msk.get i)
def over (a b : Ev) : Bool := (a.isW || b.isW) && (Nat.beq a.name b.name && (Nat.beq a.idx 0 || (Nat.beq b.idx 0 || Nat.beq a.idx b.idx)))
def apl (a b : List Ev) : Bool := a.all fun x => b.all fun y => !over x y
def nnm (l : List Ev) (c c2 : Nat) : Bool := l.all fun e => Nat.blt e.name c || Nat.ble c2 e.name
noncomputable def chk (msk : Tr Nat) (i : Nat) (l : List Ev) (recs : List Rc) : Bool :=
  match l with
  | [] => true
  | _ :: _ => recs.all fun r => ordB msk i r.j || (apl r.l l && nnm l r.c r.c2)
noncomputable def rcs (i : Nat) (r : SR) (recs : List Rc) : List Rc :=
  match r.l with
  | [] => Bool.rec (motive := fun _ => List Rc) (⟨i, r.c, r.c2, []⟩ :: recs) recs (Nat.beq r.c r.c2)
  | x :: l => ⟨i, r.c, r.c2, x :: l⟩ :: recs
noncomputable def drw (X : Mach) (ops : Array Oper) (msk : Tr Nat) (l : List Oper) : Nat → List Rc → Tr AV → M (Tr AV) :=
  List.rec (motive := fun _ => Nat → List Rc → Tr AV → M (Tr AV)) (fun _ _ a => ret a) (fun o _ ih i recs a => bnd (scp (stp X ops o a)) fun r => want (chk msk i r.l recs) 12 (ih (i + 1) (rcs i r recs) r.a)) l
theorem drw_cons (X : Mach) (ops : Array Oper) (msk : Tr Nat) (o : Oper) (l : List Oper) (i : Nat) (recs : List Rc) (a : Tr AV) : drw X ops msk (o :: l) i recs a = bnd (scp (stp X ops o a)) fun r => want (chk msk i r.l recs) 12 (drw X ops msk l (i + 1) (rcs i r recs) r.a) := rfl
theorem Loc.drw {X : Mach} (hX : ∀ o args, Loc (X.op o args)) (ops : Array Oper) (msk : Tr Nat) : ∀ (l : List Oper) (i : Nat) (recs : List Rc) (a : Tr AV), Loc (drw X ops msk l i recs a)
  | [], _, _, a => Loc.ret a
  | o :: l, i, recs, a => Loc.bnd (Loc.scp (Loc.stp hX ops o a)) fun r => Loc.want _ _ (Loc.drw hX ops msk l _ _ _)
def dis (lj lk : List Ev) (c c2 : Nat) : Prop := apl lj lk = true ∧ nnm lk c c2 = true
theorem want_ok {β : Type} {b : Bool} {why : Nat} {g : M β} {lo : Nat} {h : Heap} {c : Nat} {lg : List Ev} {x : β} {h' : Heap} {c' : Nat} {lg' : List Ev} (e : want b why g lo h c lg = .ok x h' c' lg') : b = true ∧ g lo h c lg = .ok x h' c' lg' := by
  cases b with
  | false => cases e
  | true => exact ⟨rfl, e⟩
theorem drw_trace {X : Mach} {ops : Array Oper} {msk : Tr Nat} : ∀ (l : List Oper) (i : Nat) (recs : List Rc) (a : Tr AV) lo h c lg a' h' c' lg', drw X ops msk l i recs a lo h c lg = .ok a' h' c' lg' →
    ∀ (A : Nat → Tr AV) (H : Nat → Heap) (C : Nat → Nat) (LG : Nat → List Ev), A i = a → H i = h → C i = c → (∀ j, j < i → (LG j = [] ∧ C j = C (j + 1)) ∨ ∃ r ∈ recs, r.j = j ∧ r.l = LG j ∧ r.c = C j ∧ r.c2 = C (j + 1)) →
    ∃ (A' : Nat → Tr AV) (H' : Nat → Heap) (C' : Nat → Nat) (LG' : Nat → List Ev), (∀ j, j ≤ i → A' j = A j ∧ H' j = H j ∧ C' j = C j) ∧ (∀ j, j < i → LG' j = LG j) ∧ A' (i + l.length) = a' ∧ H' (i + l.length) = h' ∧ C' (i + l.length) = c' ∧
      ∀ k, k < l.length → ∃ o, l[k]? = some o ∧ stp X ops o (A' (i + k)) (C' (i + k)) (H' (i + k)) (C' (i + k)) [] = .ok (A' (i + k + 1)) (H' (i + k + 1)) (C' (i + k + 1)) (LG' (i + k)) ∧
        ∀ j, j < i + k → ordB msk (i + k) j = true ∨ dis (LG' j) (LG' (i + k)) (C' j) (C' (j + 1)) := by
  intro l
  induction l with
  | nil =>
    intro i recs a lo h c lg a' h' c' lg' e A H C LG hA hH hC _
    have e : ret a lo h c lg = .ok a' h' c' lg' := e
    injection e with e1 e2 e3 e4
    subst e1 e2 e3 e4
    exact ⟨A, H, C, LG, fun j _ => ⟨rfl, rfl, rfl⟩, fun j _ => rfl, hA, hH, hC, fun k hk => by simp at hk⟩
  | cons o l ih =>
    intro i recs a lo h c lg a' h' c' lg' e A H C LG hA hH hC hrec
    rw [drw_cons] at e
    obtain ⟨r, h1, c1, lg1, e1, e2⟩ := bnd_ok e
    obtain ⟨hchk, e2⟩ := want_ok e2
    obtain ⟨e3, e4, e5, e6⟩ := scp_ok e1
    let A1 : Nat → Tr AV := fun k => if k = i + 1 then r.a else A k
    let H1 : Nat → Heap := fun k => if k = i + 1 then h1 else H k
    let C1 : Nat → Nat := fun k => if k = i + 1 then c1 else C k
    let L1 : Nat → List Ev := fun k => if k = i then r.l else LG k
    have a1 : ∀ j, j ≤ i → A1 j = A j ∧ H1 j = H j ∧ C1 j = C j := fun j hj => ⟨if_neg (by omega), if_neg (by omega), if_neg (by omega)⟩
    have l1 : ∀ j, j < i → L1 j = LG j := fun j hj => if_neg (by omega)
    have hrec1 : ∀ j, j < i + 1 → (L1 j = [] ∧ C1 j = C1 (j + 1)) ∨ ∃ x ∈ rcs i r recs, x.j = j ∧ x.l = L1 j ∧ x.c = C1 j ∧ x.c2 = C1 (j + 1) := by
      intro j hj
      by_cases hji : j = i
      · subst hji
        have f1 : L1 j = r.l := if_pos rfl
        have f2 : C1 j = r.c := ((a1 j (Nat.le_refl _)).2.2.trans hC).trans e4.symm
        have f3 : C1 (j + 1) = r.c2 := (if_pos rfl : C1 (j + 1) = c1).trans e5.symm
        rw [f1, f2, f3]
        unfold rcs
        cases hl : r.l with
        | nil =>
          dsimp only
          cases hb : Nat.beq r.c r.c2 with
          | true => exact .inl ⟨rfl, Nat.eq_of_beq_eq_true hb⟩
          | false => exact .inr ⟨⟨j, r.c, r.c2, []⟩, by simp, rfl, rfl, rfl, rfl⟩
        | cons x m => exact .inr ⟨⟨j, r.c, r.c2, x :: m⟩, by simp, rfl, rfl, rfl, rfl⟩
      · have hj2 : j < i := by omega
        rw [l1 j hj2, (a1 j (by omega)).2.2, (a1 (j + 1) (by omega)).2.2]
        rcases hrec j hj2 with hh | ⟨x, hx, hh⟩
        · exact .inl hh
        · refine .inr ⟨x, ?_, hh⟩
          unfold rcs
          cases hl : r.l with
          | nil =>
            dsimp only
            cases hb : Nat.beq r.c r.c2 with
            | true => exact hx
            | false => exact List.mem_cons_of_mem _ hx
          | cons y m => exact List.mem_cons_of_mem _ hx
    obtain ⟨A', H', C', LG', g1, g2, g3, g4, g5, g6⟩ := ih (i + 1) _ _ _ _ _ _ _ _ _ _ e2 A1 H1 C1 L1 (if_pos rfl) (if_pos rfl) (if_pos rfl) hrec1
    refine ⟨A', H', C', LG', fun j hj => ?_, fun j hj => (g2 j (by omega)).trans (l1 j hj), ?_, ?_, ?_, ?_⟩
    · obtain ⟨k1, k2, k3⟩ := g1 j (by omega)
      obtain ⟨m1, m2, m3⟩ := a1 j hj
      exact ⟨k1.trans m1, k2.trans m2, k3.trans m3⟩
    · rw [List.length_cons, show i + (l.length + 1) = i + 1 + l.length by omega]; exact g3
    · rw [List.length_cons, show i + (l.length + 1) = i + 1 + l.length by omega]; exact g4
    · rw [List.length_cons, show i + (l.length + 1) = i + 1 + l.length by omega]; exact g5
    intro k hk
    cases k with
    | zero =>
      refine ⟨o, rfl, ?_, fun j hj => ?_⟩
      · obtain ⟨k1, k2, k3⟩ := g1 i (by omega)
        obtain ⟨k4, k5, k6⟩ := g1 (i + 1) (by omega)
        obtain ⟨m1, m2, m3⟩ := a1 i (by omega)
        rw [Nat.add_zero, k1, k2, k3, m1, m2, m3, hA, hH, hC, k4, k5, k6, g2 i (by omega)]
        show stp X ops o a c h c [] = .ok (if i + 1 = i + 1 then r.a else A (i + 1)) (if i + 1 = i + 1 then h1 else H (i + 1)) (if i + 1 = i + 1 then c1 else C (i + 1)) (if i = i then r.l else LG i)
        rw [if_pos rfl, if_pos rfl, if_pos rfl, if_pos rfl]
        exact e3
      · rw [Nat.add_zero] at hj ⊢
        rw [g2 i (by omega), g2 j (by omega), (g1 j (by omega)).2.2, (g1 (j + 1) (by omega)).2.2]
        have f1 : L1 i = r.l := if_pos rfl
        rw [f1, l1 j hj, (a1 j (by omega)).2.2, (a1 (j + 1) (by omega)).2.2]
        cases hl : r.l with
        | nil => exact .inr ⟨by unfold apl; simp, by unfold nnm; simp⟩
        | cons y m =>
          rcases hrec j hj with ⟨hh1, hh2⟩ | ⟨x, hx, rfl, hh2, hh3, hh4⟩
          · refine .inr ⟨by rw [hh1]; rfl, ?_⟩
            unfold nnm
            rw [List.all_eq_true]
            intro z _
            rw [← hh2, Bool.or_eq_true, blt_iff, Nat.ble_eq]
            omega
          · rw [hl] at hchk
            have hchk : (recs.all fun r => ordB msk i r.j || (apl r.l (y :: m) && nnm (y :: m) r.c r.c2)) = true := hchk
            have := List.all_eq_true.1 hchk x hx
            rw [Bool.or_eq_true, Bool.and_eq_true] at this
            rcases this with h1 | ⟨h1, h2⟩
            · exact .inl h1
            · exact .inr ⟨by rw [← hh2]; exact h1, by rw [← hh3, ← hh4]; exact h2⟩
    | succ k =>
      obtain ⟨o2, p1, p2, p3⟩ := g6 k (by simpa using hk)
      refine ⟨o2, by simpa using p1, ?_, ?_⟩
      · rw [show i + (k + 1) = i + 1 + k by omega]; exact p2
      · rw [show i + (k + 1) = i + 1 + k by omega]; exact p3
/-- What is checked of a region once. -/
noncomputable def statOK (N : Nat) (ops : Array Oper) : Bool :=
  ops.toList.zipIdx.all fun p => (p.1.after.toList.all fun e => !Region.binds .any e || Nat.blt e.on p.2) && (Option.rec (motive := fun _ => Bool) true (fun d => Nat.blt d N) p.1.dst &&
    (List.range p.2).all fun j => ordB (masks ops.toList 0 .leaf) p.2 j || (ops.getD j default).apart ops p.1)
theorem statOK_spec {N : Nat} {ops : Array Oper} (h : statOK N ops = true) {i : Nat} {o : Oper} (ho : ops[i]? = some o) :
    (∀ e ∈ o.after.toList, Region.binds .any e = true → e.on < i) ∧ (∀ d, o.dst = some d → d < N) ∧ ∀ j x, j < i → ops[j]? = some x → ordB (masks ops.toList 0 .leaf) i j = true ∨ x.apart ops o = true := by
  unfold statOK at h
  have hm : (o, i) ∈ ops.toList.zipIdx := by
    rw [List.mk_mem_zipIdx_iff_getElem?]
    simpa using ho
  have := List.all_eq_true.1 h _ hm
  rw [Bool.and_eq_true, Bool.and_eq_true] at this
  obtain ⟨h1, h2, h3⟩ := this
  refine ⟨fun e he hb => ?_, fun d hd => ?_, fun j x hj hx => ?_⟩
  · have := List.all_eq_true.1 h1 e he
    rw [hb] at this
    exact blt_iff.1 this
  · dsimp only at h2
    rw [hd] at h2
    exact blt_iff.1 h2
  · have := List.all_eq_true.1 h3 j (List.mem_range.2 hj)
    rw [Bool.or_eq_true] at this
    have hg : ops.getD j default = x := by
      rw [Array.getD_eq_getD_getElem?, hx]; rfl
    rw [hg] at this
    exact this
end Go.Proofs.YtdkgckgpdogimaaGreatDoor

