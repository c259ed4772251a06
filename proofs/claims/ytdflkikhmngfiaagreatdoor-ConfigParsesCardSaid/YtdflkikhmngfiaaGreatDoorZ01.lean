/- Steps over states, with what they read and write; each is told by what it reads. -/
import Derived.Test.YtdflkikhmngfiaaGreatDoorZ00
namespace Go.Proofs.YtdflkikhmngfiaaGreatDoor
open Go.RowKit
set_option linter.unusedVariables false
set_option linter.unusedSimpArgs false
set_option linter.unusedSectionVars false
variable [Sy]

/-- An access: to a whole block (0), or to its cell i (i + 1). -/
inductive Ev where
  | r (n i : Nat)
  | w (n i : Nat)
def Ev.name : Ev → Nat
  | .r n _ => n
  | .w n _ => n
def Ev.idx : Ev → Nat
  | .r _ i => i
  | .w _ i => i
def Ev.isW : Ev → Bool
  | .r _ _ => false
  | .w _ _ => true
/-- The places that an access touches. -/
def Ev.cov (e : Ev) (n : Nat) (q : Option Nat) : Prop := e.name = n ∧ (e.idx = 0 ∨ q = some (e.idx - 1))
def cov (l : List Ev) (n : Nat) (q : Option Nat) : Prop := ∃ e ∈ l, e.cov n q
def covW (l : List Ev) (n : Nat) (q : Option Nat) : Prop := ∃ e ∈ l, e.isW = true ∧ e.cov n q
theorem covW.cov {l : List Ev} {n : Nat} {q : Option Nat} (h : covW l n q) : cov l n q := let ⟨e, h1, _, h2⟩ := h; ⟨e, h1, h2⟩
theorem cov_append {a b : List Ev} {n : Nat} {q : Option Nat} : cov (a ++ b) n q ↔ cov a n q ∨ cov b n q := by
  unfold cov
  constructor
  · rintro ⟨e, h, k⟩
    rcases List.mem_append.1 h with h | h
    · exact .inl ⟨e, h, k⟩
    · exact .inr ⟨e, h, k⟩
  · rintro (⟨e, h, k⟩ | ⟨e, h, k⟩)
    · exact ⟨e, List.mem_append.2 (.inl h), k⟩
    · exact ⟨e, List.mem_append.2 (.inr h), k⟩
theorem covW_append {a b : List Ev} {n : Nat} {q : Option Nat} : covW (a ++ b) n q ↔ covW a n q ∨ covW b n q := by
  unfold covW
  constructor
  · rintro ⟨e, h, k⟩
    rcases List.mem_append.1 h with h | h
    · exact .inl ⟨e, h, k⟩
    · exact .inr ⟨e, h, k⟩
  · rintro (⟨e, h, k⟩ | ⟨e, h, k⟩)
    · exact ⟨e, List.mem_append.2 (.inl h), k⟩
    · exact ⟨e, List.mem_append.2 (.inr h), k⟩
/-- What stands at a place. -/
inductive At where
  | m (m : Mta)
  | c (x : Option AV)
noncomputable def vl (h : Heap) (n : Nat) : Option Nat → At
  | none => .m (mt h n)
  | some i => .c (cl h n i)
theorem vl_m {h h2 : Heap} {n : Nat} (e : vl h n none = vl h2 n none) : mt h n = mt h2 n := by
  unfold vl at e
  injection e
theorem vl_c {h h2 : Heap} {n i : Nat} (e : vl h n (some i) = vl h2 n (some i)) : cl h n i = cl h2 n i := by
  unfold vl at e
  injection e
theorem vl_ext {h h2 : Heap} {n : Nat} (hm : mt h n = mt h2 n) (hc : ∀ i, cl h n i = cl h2 n i) (q : Option Nat) : vl h n q = vl h2 n q := by
  cases q with
  | none => exact congrArg At.m hm
  | some i => exact congrArg At.c (hc i)

inductive R (α : Type) where
  | ok (a : α) (h : Heap) (c : Nat) (lg : List Ev)
  | bad (why : List Nat)
/-- A step: from what names on is nothing told, the heap, the next name, what was told. -/
abbrev M (α : Type) := Nat → Heap → Nat → List Ev → R α
noncomputable def ret {α : Type} (a : α) : M α := fun _ h c lg => .ok a h c lg
noncomputable def fail {α : Type} (why : List Nat) : M α := fun _ _ _ _ => .bad why
noncomputable def bnd {α β : Type} (f : M α) (g : α → M β) : M β := fun lo h c lg => R.rec (motive := fun _ => R β) (fun a h c lg => g a lo h c lg) (fun w => .bad w) (f lo h c lg)
noncomputable def need {α β : Type} (o : Option α) (why : Nat) (g : α → M β) : M β := Option.rec (motive := fun _ => M β) (fail [why]) g o
noncomputable def want {β : Type} (b : Bool) (why : Nat) (g : M β) : M β := Bool.rec (motive := fun _ => M β) (fail [why]) g b
theorem need_some {α β : Type} (x : α) (why : Nat) (g : α → M β) : need (some x) why g = g x := rfl
theorem need_none {α β : Type} (why : Nat) (g : α → M β) : need none why g = fail [why] := rfl
theorem want_true {β : Type} (why : Nat) (g : M β) : want true why g = g := rfl
theorem want_false {β : Type} (why : Nat) (g : M β) : want false why g = fail [why] := rfl
theorem bnd_ok {α β : Type} {f : M α} {g : α → M β} {lo : Nat} {h : Heap} {c : Nat} {lg : List Ev} {b : β} {h' : Heap} {c' : Nat} {lg' : List Ev} (e : bnd f g lo h c lg = .ok b h' c' lg') :
    ∃ a h1 c1 lg1, f lo h c lg = .ok a h1 c1 lg1 ∧ g a lo h1 c1 lg1 = .ok b h' c' lg' := by
  unfold bnd at e
  cases hf : f lo h c lg with
  | ok a h1 c1 lg1 => rw [hf] at e; exact ⟨a, h1, c1, lg1, rfl, e⟩
  | bad w => rw [hf] at e; cases e
theorem bnd_run {α β : Type} {f : M α} {g : α → M β} {lo : Nat} {h : Heap} {c : Nat} {lg : List Ev} {a : α} {h' : Heap} {c' : Nat} {lg' : List Ev} (e : f lo h c lg = .ok a h' c' lg') : bnd f g lo h c lg = g a lo h' c' lg' := by
  unfold bnd; rw [e]
/-- The places that a step may read; those that it may write. -/
def Rd (l : List Ev) (lo c : Nat) (n : Nat) (q : Option Nat) : Prop := cov l n q ∨ (lo ≤ n ∧ n < c)
def Wt (l : List Ev) (lo c : Nat) (n : Nat) (q : Option Nat) : Prop := covW l n q ∨ (lo ≤ n ∧ n < c)
/-- A step does the same wherever the places that it reads are the same, and turns no others. -/
def Loc {α : Type} (f : M α) : Prop := ∀ lo h c lg a h' c' lg', lo ≤ c → f lo h c lg = .ok a h' c' lg' → ∃ l, lg' = l ++ lg ∧ c ≤ c' ∧ (∀ e ∈ l, e.name < lo) ∧
  ∀ h2 lg2, (∀ n q, Rd l lo c' n q → vl h n q = vl h2 n q) → ∃ h2', f lo h2 c lg2 = .ok a h2' c' (l ++ lg2) ∧ (∀ n q, Wt l lo c' n q → vl h2' n q = vl h' n q) ∧ ∀ n q, ¬ Wt l lo c' n q → vl h2' n q = vl h2 n q
theorem Loc.keeps {α : Type} {f : M α} (hf : Loc f) {lo : Nat} {h : Heap} {c : Nat} {lg : List Ev} {a : α} {h' : Heap} {c' : Nat} {l : List Ev} (hc : lo ≤ c) (e : f lo h c lg = .ok a h' c' (l ++ lg)) : ∀ n q, ¬ Wt l lo c' n q → vl h' n q = vl h n q := by
  obtain ⟨l2, h1, h2, h3, h4⟩ := hf _ _ _ _ _ _ _ _ hc e
  obtain rfl := List.append_cancel_right h1
  obtain ⟨h2', e2, k1, k2⟩ := h4 h lg (fun _ _ _ => rfl)
  rw [e] at e2
  injection e2 with _ e3
  subst e3
  exact k2
theorem Loc.ret {α : Type} (a : α) : Loc (ret a) := by
  intro lo h c lg a' h' c' lg' hc e
  unfold Go.Proofs.YtdflkikhmngfiaaGreatDoor.ret at e
  injection e with e1 e2 e3 e4
  subst e1 e2 e3 e4
  refine ⟨[], rfl, Nat.le_refl _, by simp, fun h2 lg2 hr => ⟨h2, rfl, fun n q hw => ?_, fun n q _ => rfl⟩⟩
  rcases hw with ⟨e, he, _⟩ | hw
  · cases he
  · exact (hr n q (.inr hw)).symm
theorem Loc.fail {α : Type} (w : List Nat) : Loc (fail w : M α) := by
  intro lo h c lg a' h' c' lg' hc e
  cases e
theorem Loc.bnd {α β : Type} {f : M α} {g : α → M β} (hf : Loc f) (hg : ∀ a, Loc (g a)) : Loc (bnd f g) := by
  intro lo h c lg b h' c' lg' hc e
  obtain ⟨a, h1, c1, lg1, e1, e2⟩ := bnd_ok e
  obtain ⟨l1, p1, p2, p3, p4⟩ := hf _ _ _ _ _ _ _ _ hc e1
  subst p1
  obtain ⟨l2, q1, q2, q3, q4⟩ := hg a _ _ _ _ _ _ _ _ (Nat.le_trans hc p2) e2
  subst q1
  refine ⟨l2 ++ l1, by rw [List.append_assoc], Nat.le_trans p2 q2, ?_, ?_⟩
  · intro x hx
    rcases List.mem_append.1 hx with hx | hx
    · exact q3 x hx
    · exact p3 x hx
  intro h2 lg2 hr
  have hr1 : ∀ n q, Rd l1 lo c1 n q → vl h n q = vl h2 n q := fun n q hn => hr n q (by
    rcases hn with hn | hn
    · exact .inl (cov_append.2 (.inr hn))
    · exact .inr ⟨hn.1, by omega⟩)
  obtain ⟨h21, r1, r2, r3⟩ := p4 h2 lg2 hr1
  have hk := hf.keeps hc e1
  obtain ⟨h22, s1, s2, s3⟩ := q4 h21 (l1 ++ lg2) (fun n q hn => by
    by_cases hw : Wt l1 lo c1 n q
    · exact (r2 n q hw).symm
    · rw [hk n q hw, r3 n q hw]
      refine hr n q ?_
      rcases hn with hn | hn
      · exact .inl (cov_append.2 (.inl hn))
      · exact .inr hn)
  refine ⟨h22, ?_, fun n q hw => ?_, fun n q hw => ?_⟩
  · rw [bnd_run r1, s1, List.append_assoc]
  · by_cases hw2 : Wt l2 lo c' n q
    · exact s2 n q hw2
    · rw [s3 n q hw2, (hg a).keeps (Nat.le_trans hc p2) e2 n q hw2]
      refine r2 n q ?_
      rcases hw with hw | hw
      · rcases covW_append.1 hw with hw | hw
        · exact absurd (.inl hw) hw2
        · exact .inl hw
      · exact absurd (.inr hw) hw2
  · have hw2 : ¬ Wt l2 lo c' n q := fun k => hw (by
      rcases k with k | k
      · exact .inl (covW_append.2 (.inl k))
      · exact .inr k)
    have hw1 : ¬ Wt l1 lo c1 n q := fun k => hw (by
      rcases k with k | k
      · exact .inl (covW_append.2 (.inr k))
      · exact .inr ⟨k.1, by omega⟩)
    rw [s3 n q hw2, r3 n q hw1]
/-- A step whose failing is told with a number. -/
noncomputable def tag {α : Type} (n : Nat) (f : M α) : M α := fun lo h c lg => R.rec (motive := fun _ => R α) (fun a h c lg => .ok a h c lg) (fun w => .bad (n :: w)) (f lo h c lg)
theorem tag_ok {α : Type} {n : Nat} {f : M α} {lo : Nat} {h : Heap} {c : Nat} {lg : List Ev} {a : α} {h' : Heap} {c' : Nat} {lg' : List Ev} : tag n f lo h c lg = .ok a h' c' lg' ↔ f lo h c lg = .ok a h' c' lg' := by
  unfold tag
  cases f lo h c lg with
  | ok a h c lg => exact Iff.rfl
  | bad w => constructor <;> intro e <;> cases e
theorem Loc.tag {α : Type} {n : Nat} {f : M α} (hf : Loc f) : Loc (tag n f) := by
  intro lo h c lg a h' c' lg' hc e
  obtain ⟨l, p1, p2, p3, p4⟩ := hf _ _ _ _ _ _ _ _ hc (tag_ok.1 e)
  refine ⟨l, p1, p2, p3, fun h2 lg2 hr => ?_⟩
  obtain ⟨h2', q1, q2⟩ := p4 h2 lg2 hr
  exact ⟨h2', tag_ok.2 q1, q2⟩
theorem Loc.need {α β : Type} {g : α → M β} (o : Option α) (why : Nat) (hg : ∀ a, Loc (g a)) : Loc (need o why g) := by
  cases o with
  | none => exact Loc.fail _
  | some x => exact hg x
theorem Loc.want {β : Type} {g : M β} (b : Bool) (why : Nat) (hg : Loc g) : Loc (want b why g) := by
  cases b
  · exact Loc.fail _
  · exact hg
/-- What a step at one place gives. -/
inductive PR (α : Type) where
  | ok (a : α) (h : Heap)
  | no
/-- A step at one place: told, if its name is below. -/
noncomputable def prim {α : Type} (n : Nat) (e : Ev) (f : Heap → PR α) : M α := fun lo h c lg =>
  PR.rec (motive := fun _ => R α) (fun a h' => Bool.rec (motive := fun _ => R α) (Bool.rec (motive := fun _ => R α) (.bad [2, n]) (.ok a h' c lg) (Nat.blt n c)) (.ok a h' c (e :: lg)) (Nat.blt n lo)) (.bad [1, n, e.idx]) (f h)
theorem blt_t {a b : Nat} (h : a < b) : Nat.blt a b = true := by simpa [Nat.blt_eq] using h
theorem blt_f {a b : Nat} (h : ¬ a < b) : Nat.blt a b = false := by
  cases hb : Nat.blt a b with
  | false => rfl
  | true => exact absurd (by simpa [Nat.blt_eq] using hb) h
theorem prim_lo {α : Type} {n : Nat} {e : Ev} {f : Heap → PR α} {lo : Nat} {h : Heap} {c : Nat} {lg : List Ev} {a : α} {h' : Heap} (hf : f h = .ok a h') (hn : n < lo) : prim n e f lo h c lg = .ok a h' c (e :: lg) := by
  unfold prim; rw [hf, blt_t hn]
theorem prim_hi {α : Type} {n : Nat} {e : Ev} {f : Heap → PR α} {lo : Nat} {h : Heap} {c : Nat} {lg : List Ev} {a : α} {h' : Heap} (hf : f h = .ok a h') (hn : ¬ n < lo) (hc : n < c) : prim n e f lo h c lg = .ok a h' c lg := by
  unfold prim; rw [hf, blt_f hn, blt_t hc]
theorem prim_ok {α : Type} {n : Nat} {e : Ev} {f : Heap → PR α} {lo : Nat} {h : Heap} {c : Nat} {lg : List Ev} {a : α} {h' : Heap} {c' : Nat} {lg' : List Ev} (k : prim n e f lo h c lg = .ok a h' c' lg') :
    f h = .ok a h' ∧ c' = c ∧ ((n < lo ∧ lg' = e :: lg) ∨ (¬ n < lo ∧ n < c ∧ lg' = lg)) := by
  unfold prim at k
  cases hf : f h with
  | no => rw [hf] at k; cases k
  | ok a2 h2 =>
    rw [hf] at k
    by_cases hn : n < lo
    · rw [blt_t hn] at k
      injection k with k1 k2 k3 k4
      subst k1 k2 k3 k4
      exact ⟨rfl, rfl, .inl ⟨hn, rfl⟩⟩
    · rw [blt_f hn] at k
      by_cases hc : n < c
      · rw [blt_t hc] at k
        injection k with k1 k2 k3 k4
        subst k1 k2 k3 k4
        exact ⟨rfl, rfl, .inr ⟨hn, hc, rfl⟩⟩
      · rw [blt_f hc] at k
        cases k
theorem Loc.prim {α : Type} {n : Nat} {e : Ev} {f : Heap → PR α} (he : e.name = n)
    (hf : ∀ h a h', f h = .ok a h' → ∀ h2, (∀ q, e.cov n q → vl h n q = vl h2 n q) → ∃ h2', f h2 = .ok a h2' ∧
      (∀ q, e.isW = true → e.cov n q → vl h2' n q = vl h' n q) ∧ ∀ m q, (e.isW = false ∨ m ≠ n ∨ ¬ e.cov n q) → vl h2' m q = vl h2 m q) : Loc (prim n e f) := by
  intro lo h c lg a h' c' lg' hc e1
  obtain ⟨hfh, rfl, hor⟩ := prim_ok e1
  have hkeep : ∀ m q, (e.isW = false ∨ m ≠ n ∨ ¬ e.cov n q) → vl h' m q = vl h m q := by
    obtain ⟨h2', k1, _, k3⟩ := hf h a h' hfh h (fun _ _ => rfl)
    rw [hfh] at k1
    injection k1 with _ k1
    subst k1
    exact k3
  rcases hor with ⟨hn, rfl⟩ | ⟨hn, hnc, rfl⟩
  · refine ⟨[e], rfl, Nat.le_refl _, by intro x hx; rw [List.mem_singleton.1 hx, he]; exact hn, fun h2 lg2 hr => ?_⟩
    obtain ⟨h2', g1, g2, g3⟩ := hf h a h' hfh h2 (fun q hq => hr n q (.inl ⟨e, by simp, hq⟩))
    refine ⟨h2', prim_lo g1 hn, fun m q hw => ?_, fun m q hw => ?_⟩
    · rcases hw with ⟨x, hx, h3, h4⟩ | hw
      · obtain rfl := List.mem_singleton.1 hx
        obtain rfl : n = m := he.symm.trans h4.1
        exact g2 q h3 h4
      · have hm : m ≠ n := by omega
        rw [g3 m q (.inr (.inl hm)), hkeep m q (.inr (.inl hm))]
        exact (hr m q (.inr hw)).symm
    · by_cases hm : m = n
      · subst hm
        cases hb : e.isW with
        | false => exact g3 m q (.inl hb)
        | true => exact g3 m q (.inr (.inr fun h4 => hw (.inl ⟨e, by simp, hb, h4⟩)))
      · exact g3 m q (.inr (.inl hm))
  · refine ⟨[], rfl, Nat.le_refl _, by simp, fun h2 lg2 hr => ?_⟩
    obtain ⟨h2', g1, g2, g3⟩ := hf h a h' hfh h2 (fun q hq => hr n q (.inr ⟨by omega, hnc⟩))
    refine ⟨h2', prim_hi g1 hn hnc, fun m q hw => ?_, fun m q hw => ?_⟩
    · rcases hw with ⟨x, hx, _⟩ | hw
      · cases hx
      · by_cases hm : m = n
        · subst hm
          by_cases hc2 : e.isW = true ∧ e.cov m q
          · exact g2 q hc2.1 hc2.2
          · have : e.isW = false ∨ m ≠ m ∨ ¬ e.cov m q := by
              by_cases hb : e.isW = true
              · exact .inr (.inr fun h4 => hc2 ⟨hb, h4⟩)
              · exact .inl (by simpa using hb)
            rw [g3 m q this, hkeep m q this]
            exact (hr m q (.inr hw)).symm
        · rw [g3 m q (.inr (.inl hm)), hkeep m q (.inr (.inl hm))]
          exact (hr m q (.inr hw)).symm
    · have hm : m ≠ n := fun h3 => hw (.inr ⟨by omega, by omega⟩)
      exact g3 m q (.inr (.inl hm))
/-- A cell, read. -/
noncomputable def rdC (n i : Nat) : M AV := prim n (.r n (i + 1)) fun h => Option.rec (motive := fun _ => PR AV) .no (fun x => .ok x h) (cl h n i)
theorem Loc.rdC (n i : Nat) : Loc (rdC n i) := by
  refine Loc.prim rfl fun h a h' hf h2 hr => ?_
  have e := vl_c (hr (some i) ⟨rfl, .inr rfl⟩)
  rw [← e]
  cases hx : cl h n i with
  | none => rw [hx] at hf; cases hf
  | some x =>
    rw [hx] at hf
    injection hf with h1 h3
    subst h1
    exact ⟨h2, rfl, fun q hw => (by cases hw), fun m q _ => rfl⟩
/-- A block's kind, read: with all that is in it. -/
noncomputable def rdM (n : Nat) : M Mta := prim n (.r n 0) fun h => .ok (mt h n) h
theorem Loc.rdM (n : Nat) : Loc (rdM n) := by
  refine Loc.prim rfl fun h a h' hf h2 hr => ?_
  have e := vl_m (hr none ⟨rfl, .inl rfl⟩)
  rw [← e]
  injection hf with h1 h3
  subst h1
  exact ⟨h2, rfl, fun q hw => (by cases hw), fun m q _ => rfl⟩
noncomputable def cells (h : Heap) (n : Nat) (k : Nat) : Nat → Option (List AV) :=
  match h.get n with
  | some (.row _ _ _ cs _) => cs.list k
  | _ => fun _ => none
theorem cells_spec {h : Heap} {n k from_ : Nat} {l : List AV} (e : cells h n k from_ = some l) : (∃ el z sz o, mt h n = .row el z sz o) ∧ l.length = k ∧ ∀ i, i < k → cl h n (from_ + i) = l[i]? := by
  unfold cells at e
  unfold mt cl
  cases hb : h.get n with
  | none => rw [hb] at e; cases e
  | some b =>
    rw [hb] at e
    cases b with
    | row el z sz cs o =>
      have := Tr.list_spec cs k from_ l e
      exact ⟨⟨el, z, sz, o, rfl⟩, this.1, this.2⟩
    | mp es => cases e
    | tok el sh e2 => cases e
    | dead => cases e
theorem cells_of {h : Heap} {n k from_ : Nat} {l : List AV} (hm : ∃ el z sz o, mt h n = .row el z sz o) (hl : l.length = k) (hc : ∀ i, i < k → cl h n (from_ + i) = l[i]?) : cells h n k from_ = some l := by
  obtain ⟨el, z, sz, o, hm⟩ := hm
  unfold cells
  unfold mt at hm
  unfold cl at hc
  cases hb : h.get n with
  | none => rw [hb] at hm; cases hm
  | some b =>
    rw [hb] at hm hc
    cases b with
    | row el z sz cs o => exact Tr.list_of cs k from_ l hl hc
    | mp es => cases hm
    | tok el sh e2 => cases hm
    | dead => cases hm
/-- Cells, read. -/
noncomputable def rdL (n k from_ : Nat) : M (List AV) := prim n (.r n 0) fun h => Option.rec (motive := fun _ => PR (List AV)) .no (fun x => .ok x h) (cells h n k from_)
theorem Loc.rdL (n k from_ : Nat) : Loc (rdL n k from_) := by
  refine Loc.prim rfl fun h a h' hf h2 hr => ?_
  cases hx : cells h n k from_ with
  | none => rw [hx] at hf; cases hf
  | some l =>
    rw [hx] at hf
    injection hf with h1 h3
    subst h1
    obtain ⟨⟨el, z, sz, o, g1⟩, g2, g3⟩ := cells_spec hx
    have e := vl_m (hr none ⟨rfl, .inl rfl⟩)
    rw [cells_of ⟨el, z, sz, o, e ▸ g1⟩ g2 (fun i hi => (vl_c (hr (some (from_ + i)) ⟨rfl, .inl rfl⟩)) ▸ g3 i hi)]
    exact ⟨h2, rfl, fun q hw => (by cases hw), fun m q _ => rfl⟩
theorem mt_set (h : Heap) (n m : Nat) (b : Blk) : mt (h.set n b) m = if m = n then b.mta else mt h m := by
  unfold mt
  rw [Tr.get_set]
  split <;> rfl
theorem cl_set (h : Heap) (n m i : Nat) (b : Blk) : cl (h.set n b) m i = if m = n then cellOf (some b) i else cl h m i := by
  unfold cl
  rw [Tr.get_set]
  split <;> rfl
theorem vl_set_ne (h : Heap) (n m : Nat) (b : Blk) (hm : m ≠ n) (q : Option Nat) : vl (h.set n b) m q = vl h m q :=
  vl_ext (by rw [mt_set, if_neg hm]) (fun i => by rw [cl_set, if_neg hm]) q
/-- A cell, written; it must be there. -/
noncomputable def wrF (n i : Nat) (x : AV) (h : Heap) : PR Unit :=
  match h.get n with
  | some (.row el z sz cs o) => Option.rec (motive := fun _ => PR Unit) .no (fun _ => .ok () (h.set n (.row el z sz (cs.set i x) o))) (cs.get i)
  | _ => .no
theorem wrF_ok {n i : Nat} {x : AV} {h h' : Heap} {u : Unit} (e : wrF n i x h = .ok u h') : (∃ y, cl h n i = some y) ∧ (∀ m, mt h' m = mt h m) ∧ ∀ m j, cl h' m j = if m = n ∧ j = i then some x else cl h m j := by
  unfold wrF at e
  cases hb : h.get n with
  | none => rw [hb] at e; cases e
  | some b =>
    rw [hb] at e
    cases b with
    | mp es => cases e
    | tok el sh e2 => cases e
    | dead => cases e
    | row el z sz cs o =>
      dsimp only at e
      cases hc : cs.get i with
      | none => rw [hc] at e; cases e
      | some y =>
        rw [hc] at e
        injection e with e1 e2
        subst e2
        refine ⟨⟨y, by unfold cl; rw [hb]; exact hc⟩, fun m => ?_, fun m j => ?_⟩
        · rw [mt_set]
          split
          · rename_i hm; subst hm; unfold mt; rw [hb]; rfl
          · rfl
        · rw [cl_set]
          by_cases hm : m = n
          · rw [if_pos hm]
            subst hm
            show (cs.set i x).get j = _
            rw [Tr.get_set]
            by_cases hj : j = i
            · rw [if_pos hj, if_pos ⟨rfl, hj⟩]
            · rw [if_neg hj, if_neg (fun k => hj k.2)]; unfold cl; rw [hb]; rfl
          · rw [if_neg hm, if_neg (fun k => hm k.1)]
theorem wrF_of {n i : Nat} {x y : AV} {h : Heap} (e : cl h n i = some y) : ∃ h', wrF n i x h = .ok () h' := by
  unfold cl at e
  unfold wrF
  cases hb : h.get n with
  | none => rw [hb] at e; cases e
  | some b =>
    rw [hb] at e
    cases b with
    | mp es => cases e
    | tok el sh e2 => cases e
    | dead => cases e
    | row el z sz cs o =>
      have e : cs.get i = some y := e
      dsimp only
      rw [e]
      exact ⟨_, rfl⟩
noncomputable def wrC (n i : Nat) (x : AV) : M Unit := prim n (.w n (i + 1)) (wrF n i x)
theorem Loc.wrC (n i : Nat) (x : AV) : Loc (wrC n i x) := by
  refine Loc.prim rfl fun h a h' hf h2 hr => ?_
  obtain ⟨⟨y, hy⟩, g2, g3⟩ := wrF_ok hf
  have e := vl_c (hr (some i) ⟨rfl, .inr rfl⟩)
  obtain ⟨h2', k1⟩ := wrF_of (x := x) (e ▸ hy : cl h2 n i = some y)
  obtain ⟨_, k2, k3⟩ := wrF_ok k1
  refine ⟨h2', k1, fun q _ hc => ?_, fun m q hm => ?_⟩
  · obtain ⟨_, hq⟩ := hc
    rcases hq with hq | hq
    · simp [Ev.idx] at hq
    · subst hq
      show At.c (cl h2' n i) = At.c (cl h' n i)
      rw [k3, g3, if_pos ⟨rfl, rfl⟩, if_pos ⟨rfl, rfl⟩]
  · cases q with
    | none => exact congrArg At.m (k2 m)
    | some j =>
      show At.c (cl h2' m j) = At.c (cl h2 m j)
      rw [k3]
      by_cases hh : m = n ∧ j = i
      · exfalso
        rcases hm with hm | hm | hm
        · cases hm
        · exact hm hh.1
        · exact hm ⟨rfl, .inr (by rw [hh.2]; rfl)⟩
      · rw [if_neg hh]
/-- A whole block, written anew; it must be there. -/
noncomputable def wrB (n : Nat) (b : Blk) : M Unit := prim n (.w n 0) fun h => Option.rec (motive := fun _ => PR Unit) .no (fun _ => .ok () (h.set n b)) (h.get n)
theorem Loc.wrB (n : Nat) (b : Blk) : Loc (wrB n b) := by
  refine Loc.prim rfl fun h a h' hf h2 hr => ?_
  cases hx : h.get n with
  | none => rw [hx] at hf; cases hf
  | some b0 =>
    rw [hx] at hf
    injection hf with _ h3
    subst h3
    have e := vl_m (hr none ⟨rfl, .inl rfl⟩)
    cases hy : h2.get n with
    | none => unfold mt at e; rw [hx, hy] at e; cases b0 <;> cases e
    | some b2 =>
      refine ⟨h2.set n b, rfl, fun q _ _ => ?_, fun m q hm => ?_⟩
      · exact vl_ext (by rw [mt_set, mt_set, if_pos rfl, if_pos rfl]) (fun i => by rw [cl_set, cl_set, if_pos rfl, if_pos rfl]) q
      · refine vl_set_ne _ _ _ _ ?_ q
        rintro rfl
        rcases hm with hm | hm | hm
        · cases hm
        · exact hm rfl
        · exact hm ⟨rfl, .inl rfl⟩
/-- A new block. -/
noncomputable def new (b : Blk) : M Nat := fun lo h c lg => Option.rec (motive := fun _ => R Nat) (.ok c (h.set c b) (c + 1) lg) (fun _ => .bad [3, c]) (h.get c)
theorem new_ok {b : Blk} {lo : Nat} {h : Heap} {c : Nat} {lg : List Ev} {n : Nat} {h' : Heap} {c' : Nat} {lg' : List Ev} (e : new b lo h c lg = .ok n h' c' lg') : h.get c = none ∧ n = c ∧ h' = h.set c b ∧ c' = c + 1 ∧ lg' = lg := by
  unfold new at e
  cases hx : h.get c with
  | some b0 => rw [hx] at e; cases e
  | none =>
    rw [hx] at e
    injection e with e1 e2 e3 e4
    exact ⟨rfl, e1.symm, e2.symm, e3.symm, e4.symm⟩
theorem get_none {h : Heap} {n : Nat} : h.get n = none ↔ mt h n = .none := by
  unfold mt
  constructor
  · intro e; rw [e]; rfl
  · intro e
    cases hx : h.get n with
    | none => rfl
    | some b => rw [hx] at e; cases b <;> cases e
theorem Loc.new (b : Blk) : Loc (new b) := by
  intro lo h c lg a h' c' lg' hc e
  obtain ⟨e0, rfl, rfl, rfl, rfl⟩ := new_ok e
  refine ⟨[], rfl, Nat.le_succ _, by simp, fun h2 lg2 hr => ?_⟩
  have e1 := vl_m (hr a none (.inr ⟨hc, Nat.lt_succ_self _⟩))
  have e2 := get_none.2 (e1 ▸ get_none.1 e0)
  refine ⟨h2.set a b, by unfold Go.Proofs.YtdflkikhmngfiaaGreatDoor.new; rw [e2]; rfl, fun n q hw => ?_, fun n q hw => ?_⟩
  · rcases hw with ⟨x, hx, _⟩ | hw
    · cases hx
    · by_cases hn : n = a
      · subst hn
        exact vl_ext (by rw [mt_set, mt_set, if_pos rfl, if_pos rfl]) (fun i => by rw [cl_set, cl_set, if_pos rfl, if_pos rfl]) q
      · rw [vl_set_ne _ _ _ _ hn, vl_set_ne _ _ _ _ hn]
        exact (hr n q (.inr hw)).symm
  · exact vl_set_ne _ _ _ _ (fun hn => hw (.inr ⟨by omega, by omega⟩)) q
end Go.Proofs.YtdflkikhmngfiaaGreatDoor

