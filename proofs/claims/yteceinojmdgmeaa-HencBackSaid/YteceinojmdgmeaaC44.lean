/- PlanB · GrtA: joined by a program, for a claim has at most 60 files. -/
import Derived.Test.YteceinojmdgmeaaC43
import Derived.Test.YteceinojmdgmeaaC17
import Derived.Maps.AppendAt
import Derived.Great.BuildSlice
/- Regions that draw their order: one or two operations of whatever kind may come anywhere between the steps of a chain. -/
namespace Go.Proofs.Yteceinojmdgmeaa
open Go.RowKit
set_option linter.unusedVariables false
set_option linter.unusedSimpArgs false

section
variable {P : Program} {ops : Array Oper} {Q : Exit → Act → World → Prop} {md : Region.Mode} {S : World → Prop}
/-- A slot that a value is put into, once it is there. -/
def putV (d : Tmp) (f : Option Value) (a : Act) : Act := match f with | some v => a.put (some d) v | none => a
def missV (f : Option Value) : Nat := match f with | some _ => 0 | none => 1
def within (l m : List Nat) : Bool := !l.isEmpty && l.all (fun i => m.contains i)
theorem wpAnyH_within {m : List Nat} {fuel : Nat} {listed : Array Bool} {a : Act} {w : World} (h : within (Region.ready md ops listed) m = true)
    (hh : ∀ i ∈ m, wpOp P ops Q i (fun a' w' => S w' ∧ wpAnyH P md ops Q S fuel (listed.setIfInBounds i true) a' w') a w) : wpAnyH P md ops Q S (fuel + 1) listed a w := by
  unfold within at h
  simp only [Bool.and_eq_true, List.all_eq_true] at h
  refine wpAnyH_all rfl (fun e => ?_) fun i hi => hh i (List.contains_iff_mem.1 (h.2 i hi))
  rw [e] at h
  simp at h
theorem putV_comm (a : Act) {d e : Tmp} (h : d ≠ e) (v u : Value) : (a.put (some d) v).put (some e) u = (a.put (some e) u).put (some d) v :=
  Act.put_comm a (x := some d) (y := some e) _ _ (fun k hk h2 => by injection hk with hk; injection h2 with h2; exact h (hk.trans h2.symm))
/-- One operation more, and one that may come before it or behind it. -/
theorem f1_step {p c : Nat} {dp : Tmp} {J J' : Option Value → Act → World → Prop} {L L' : Bool → Array Bool}
    (Lp : (L false).setIfInBounds p true = L true) (Lc : ∀ b, (L b).setIfInBounds c true = L' b)
    (r0 : within (Region.ready md ops (L false)) [c, p] = true) (r1 : within (Region.ready md ops (L true)) [c] = true)
    {oc : Oper} (hc : ops[c]? = some oc) (lp : (oc.looksAt ops).contains dp = false) (ep : oc.dst ≠ some dp) (sel : ∀ cs b, oc.op ≠ .select cs b)
    (hQp : ∀ d v c a w, Q (.panic c) a w → Q (.panic c) (a.put (some d) v) w)
    (mp : ∀ a w, J none a w → wpOp P ops Q p (fun a' w' => ∃ v, a' = a.put (some dp) v ∧ J (some v) a w') a w)
    (main : ∀ fp a w, J fp a w → wpOp P ops Q c (J' fp) a w) (JS : ∀ fp a w, J fp a w → S w) (JS' : ∀ fp a w, J' fp a w → S w) (n : Nat)
    (next : ∀ fp a w, J' fp a w → wpAnyH P md ops Q S (n + missV fp) (L' fp.isSome) (putV dp fp a) w) :
    ∀ fp a w, J fp a w → wpAnyH P md ops Q S (n + 1 + missV fp) (L fp.isSome) (putV dp fp a) w := by
  have go : ∀ fp a w, J fp a w → wpOp P ops Q c (fun a' w' => S w' ∧ wpAnyH P md ops Q S (n + missV fp) (L' fp.isSome) a' w') (putV dp fp a) w := fun fp a w h => by
    have h0 : wpOp P ops Q c (fun a' w' => S w' ∧ wpAnyH P md ops Q S (n + missV fp) (L' fp.isSome) (putV dp fp a') w') a w := wpOp_mono (fun a' w' h' => ⟨JS' _ _ _ h', next fp a' w' h'⟩) (main fp a w h)
    cases fp with
    | none => exact h0
    | some gp => exact wpOp_strip hc lp ep sel (hQp _ _) h0
  have s1 : ∀ gp a w, J (some gp) a w → wpAnyH P md ops Q S (n + 1) (L true) (putV dp (some gp) a) w := fun gp a w h => by
    refine wpAnyH_within r1 fun i hi => ?_
    obtain rfl := List.mem_singleton.1 hi
    rw [Lc]
    exact go _ a w h
  intro fp a w h
  cases fp with
  | some gp => exact s1 _ _ _ h
  | none =>
    refine wpAnyH_within r0 fun i hi => ?_
    rcases List.mem_cons.1 hi with rfl | hi
    · show wpOp P ops Q _ (fun a' w' => S w' ∧ wpAnyH P md ops Q S (n + 1) ((L false).setIfInBounds _ true) a' w') _ _
      rw [Lc]
      exact go none a w h
    · obtain rfl := List.mem_singleton.1 hi
      refine wpOp_mono (fun a' w' h' => ?_) (mp a w h)
      obtain ⟨v, rfl, hj⟩ := h'
      refine ⟨JS _ _ _ hj, ?_⟩
      show wpAnyH P md ops Q S (n + 1) ((L false).setIfInBounds _ true) _ _
      rw [Lp]
      exact s1 _ _ _ hj
/-- An operation that yields its value in every world of the class is taken first. -/
theorem f1_take {c : Nat} {dp d : Tmp} {oc : Oper} {v : Value} {a : Act} {J : Option Value → World → Prop} {L L' : Bool → Array Bool}
    (Lc : ∀ b, (L b).setIfInBounds c true = L' b) (hf : ∀ b, Region.free md ops (L b) c = true) (hr : ∀ b, (Region.ready md ops (L b)).contains c = true)
    (hc : ops[c]? = some oc) (hg : oc.guard = none) (hd : oc.dst = some d) (lp : (oc.looksAt ops).contains dp = false) (ep : dp ≠ d) (hs : Region.noSelect ops = true)
    (hQ : ∀ c a w, Q (.panic c) (a.put (some d) v) w → Q (.panic c) a w) (hy : ∀ w, S w → (execOp a.eval oc).run P w = .ok (.value v) w) (JS : ∀ fp w, J fp w → S w) (n : Nat)
    (next : ∀ fp w, J fp w → wpAnyH P md ops Q S (n + missV fp) (L' fp.isSome) (putV dp fp (a.put (some d) v)) w) :
    ∀ fp w, J fp w → wpAnyH P md ops Q S (n + 1 + missV fp) (L fp.isSome) (putV dp fp a) w := by
  intro fp w h
  have e : n + 1 + missV fp = n + missV fp + 1 := by omega
  rw [e]
  have hsel := Region.noSelect_spec hs c oc
  refine wpAnyH_take hc hs (hf _) (hr _) (by rw [hd]; exact hQ) (.inl ⟨by simp [Region.wanted, hg], fun W hW => ?_⟩) (JS _ _ h) ?_
  · cases fp with
    | none => exact hy W hW
    | some g =>
      rw [show putV dp (some g) a = a.put (some dp) g from rfl, execOp_put (ops := ops) oc (fun cs b => hsel cs b hc) a (some dp) _ fun e he => ?_]
      · exact hy W hW
      · injection he with he
        subst he
        intro hm
        rw [List.contains_iff_mem.2 hm] at lp
        cases lp
  · rw [Lc, hd]
    cases fp with
    | none => exact next none w h
    | some g =>
      rw [show putV dp (some g) a = a.put (some dp) g from rfl, putV_comm a ep]
      exact next (some g) w h
/-- The one that may come anywhere must have come. -/
theorem f1_last {p : Nat} {dp : Tmp} {a : Act} {J : Option Value → World → Prop} {L : Bool → Array Bool} (Lp : (L false).setIfInBounds p true = L true) (r0 : within (Region.ready md ops (L false)) [p] = true)
    (mp : ∀ w, J none w → wpOp P ops Q p (fun a' w' => ∃ v, a' = a.put (some dp) v ∧ J (some v) w') a w) (JS : ∀ fp w, J fp w → S w) (n : Nat)
    (fin : ∀ v w, J (some v) w → wpAnyH P md ops Q S n (L true) (a.put (some dp) v) w) :
    ∀ fp w, J fp w → wpAnyH P md ops Q S (n + missV fp) (L fp.isSome) (putV dp fp a) w := by
  intro fp w h
  cases fp with
  | some g => exact fin g w h
  | none =>
    refine wpAnyH_within r0 fun i hi => ?_
    obtain rfl := List.mem_singleton.1 hi
    refine wpOp_mono (fun a' w' h' => ?_) (mp w h)
    obtain ⟨v, rfl, hj⟩ := h'
    refine ⟨JS _ _ hj, ?_⟩
    show wpAnyH P md ops Q S n ((L false).setIfInBounds _ true) _ _
    rw [Lp]
    exact fin _ _ hj
/-- One operation more, and two that may come before it or behind it. -/
theorem f2_step {p q c : Nat} {dp dq : Tmp} {J J' : Option Value → Option Value → Act → World → Prop} {L L' : Bool → Bool → Array Bool}
    (Lp : ∀ b, (L false b).setIfInBounds p true = L true b) (Lq : ∀ b, (L b false).setIfInBounds q true = L b true) (Lc : ∀ b b', (L b b').setIfInBounds c true = L' b b')
    (r00 : within (Region.ready md ops (L false false)) [c, p, q] = true) (r01 : within (Region.ready md ops (L false true)) [c, p] = true) (r10 : within (Region.ready md ops (L true false)) [c, q] = true) (r11 : within (Region.ready md ops (L true true)) [c] = true) (hpq : dp ≠ dq)
    {oc op oq : Oper} (hc : ops[c]? = some oc) (lp : (oc.looksAt ops).contains dp = false) (lq : (oc.looksAt ops).contains dq = false) (ep : oc.dst ≠ some dp) (eq : oc.dst ≠ some dq) (sel : ∀ cs b, oc.op ≠ .select cs b)
    (hp : ops[p]? = some op) (lpq : (op.looksAt ops).contains dq = false) (epq : op.dst ≠ some dq) (selp : ∀ cs b, op.op ≠ .select cs b)
    (hq : ops[q]? = some oq) (lqp : (oq.looksAt ops).contains dp = false) (eqp : oq.dst ≠ some dp) (selq : ∀ cs b, oq.op ≠ .select cs b)
    (hQp : ∀ d v c a w, Q (.panic c) a w → Q (.panic c) (a.put (some d) v) w)
    (mp : ∀ fq a w, J none fq a w → wpOp P ops Q p (fun a' w' => ∃ v, a' = a.put (some dp) v ∧ J (some v) fq a w') a w)
    (mq : ∀ fp a w, J fp none a w → wpOp P ops Q q (fun a' w' => ∃ v, a' = a.put (some dq) v ∧ J fp (some v) a w') a w)
    (main : ∀ fp fq a w, J fp fq a w → wpOp P ops Q c (J' fp fq) a w) (JS : ∀ fp fq a w, J fp fq a w → S w) (JS' : ∀ fp fq a w, J' fp fq a w → S w) (n : Nat)
    (next : ∀ fp fq a w, J' fp fq a w → wpAnyH P md ops Q S (n + missV fp + missV fq) (L' fp.isSome fq.isSome) (putV dq fq (putV dp fp a)) w) :
    ∀ fp fq a w, J fp fq a w → wpAnyH P md ops Q S (n + 1 + missV fp + missV fq) (L fp.isSome fq.isSome) (putV dq fq (putV dp fp a)) w := by
  have go : ∀ fp fq a w, J fp fq a w → wpOp P ops Q c (fun a' w' => S w' ∧ wpAnyH P md ops Q S (n + missV fp + missV fq) (L' fp.isSome fq.isSome) a' w') (putV dq fq (putV dp fp a)) w := fun fp fq a w h => by
    have h0 : wpOp P ops Q c (fun a' w' => S w' ∧ wpAnyH P md ops Q S (n + missV fp + missV fq) (L' fp.isSome fq.isSome) (putV dq fq (putV dp fp a')) w') a w := wpOp_mono (fun a' w' h' => ⟨JS' _ _ _ _ h', next fp fq a' w' h'⟩) (main fp fq a w h)
    cases fp with
    | none =>
      cases fq with
      | none => exact h0
      | some gq => exact wpOp_strip hc lq eq sel (hQp _ _) h0
    | some gp =>
      cases fq with
      | none => exact wpOp_strip hc lp ep sel (hQp _ _) h0
      | some gq => exact wpOp_strip (K := fun a' w' => S w' ∧ wpAnyH P md ops Q S (n + missV (some gp) + missV (some gq)) (L' (some gp).isSome (some gq).isSome) a' w') hc lq eq sel (hQp _ _) (wpOp_strip hc lp ep sel (hQp _ _) h0)
  have s11 : ∀ gp gq a w, J (some gp) (some gq) a w → wpAnyH P md ops Q S (n + 1) (L true true) (putV dq (some gq) (putV dp (some gp) a)) w := fun gp gq a w h => by
    refine wpAnyH_within r11 fun i hi => ?_
    obtain rfl := List.mem_singleton.1 hi
    rw [Lc]
    exact go _ _ a w h
  have s01 : ∀ gq a w, J none (some gq) a w → wpAnyH P md ops Q S (n + 1 + 1) (L false true) (putV dq (some gq) a) w := fun gq a w h => by
    refine wpAnyH_within r01 fun i hi => ?_
    rcases List.mem_cons.1 hi with rfl | hi
    · rw [Lc]
      exact go none (some gq) a w h
    · obtain rfl := List.mem_singleton.1 hi
      refine wpOp_strip hp lpq epq selp (hQp _ _) (wpOp_mono (fun a' w' h' => ?_) (mp (some gq) a w h))
      obtain ⟨v, rfl, hj⟩ := h'
      refine ⟨JS _ _ _ _ hj, ?_⟩
      rw [Lp]
      exact s11 _ _ _ _ hj
  have s10 : ∀ gp a w, J (some gp) none a w → wpAnyH P md ops Q S (n + 1 + 1) (L true false) (putV dp (some gp) a) w := fun gp a w h => by
    refine wpAnyH_within r10 fun i hi => ?_
    rcases List.mem_cons.1 hi with rfl | hi
    · rw [Lc]
      exact go (some gp) none a w h
    · obtain rfl := List.mem_singleton.1 hi
      refine wpOp_strip hq lqp eqp selq (hQp _ _) (wpOp_mono (fun a' w' h' => ?_) (mq (some gp) a w h))
      obtain ⟨v, rfl, hj⟩ := h'
      refine ⟨JS _ _ _ _ hj, ?_⟩
      rw [Lq, putV_comm a (Ne.symm hpq)]
      exact s11 _ _ _ _ hj
  intro fp fq a w h
  cases fp with
  | some gp =>
    cases fq with
    | some gq => exact s11 _ _ _ _ h
    | none => exact s10 _ _ _ h
  | none =>
    cases fq with
    | some gq => exact s01 _ _ _ h
    | none =>
      refine wpAnyH_within r00 fun i hi => ?_
      rcases List.mem_cons.1 hi with rfl | hi
      · show wpOp P ops Q _ (fun a' w' => S w' ∧ wpAnyH P md ops Q S (n + 1 + 1) ((L false false).setIfInBounds _ true) a' w') _ _
        rw [Lc]
        exact go none none a w h
      · rcases List.mem_cons.1 hi with rfl | hi
        · refine wpOp_mono (fun a' w' h' => ?_) (mp none a w h)
          obtain ⟨v, rfl, hj⟩ := h'
          refine ⟨JS _ _ _ _ hj, ?_⟩
          show wpAnyH P md ops Q S (n + 1 + 1) ((L false false).setIfInBounds _ true) _ _
          rw [Lp]
          exact s10 _ _ _ hj
        · obtain rfl := List.mem_singleton.1 hi
          refine wpOp_mono (fun a' w' h' => ?_) (mq none a w h)
          obtain ⟨v, rfl, hj⟩ := h'
          refine ⟨JS _ _ _ _ hj, ?_⟩
          show wpAnyH P md ops Q S (n + 1 + 1) ((L false false).setIfInBounds _ true) _ _
          rw [Lq]
          exact s01 _ _ _ hj
/-- The second of the two must have come before the chain goes on. -/
theorem f2_close {p q : Nat} {dp dq : Tmp} {J : Option Value → Option Value → Act → World → Prop} {L : Bool → Bool → Array Bool}
    (Lp : ∀ b, (L false b).setIfInBounds p true = L true b) (Lq : ∀ b, (L b false).setIfInBounds q true = L b true)
    (r00 : within (Region.ready md ops (L false false)) [p, q] = true) (r10 : within (Region.ready md ops (L true false)) [q] = true) (hpq : dp ≠ dq)
    {oq : Oper} (hq : ops[q]? = some oq) (lqp : (oq.looksAt ops).contains dp = false) (eqp : oq.dst ≠ some dp) (selq : ∀ cs b, oq.op ≠ .select cs b)
    (hQp : ∀ d v c a w, Q (.panic c) a w → Q (.panic c) (a.put (some d) v) w)
    (mp : ∀ fq a w, J none fq a w → wpOp P ops Q p (fun a' w' => ∃ v, a' = a.put (some dp) v ∧ J (some v) fq a w') a w)
    (mq : ∀ fp a w, J fp none a w → wpOp P ops Q q (fun a' w' => ∃ v, a' = a.put (some dq) v ∧ J fp (some v) a w') a w)
    (JS : ∀ fp fq a w, J fp fq a w → S w) (n : Nat)
    (next : ∀ fp gq a w, J fp (some gq) a w → wpAnyH P md ops Q S (n + missV fp) (L fp.isSome true) (putV dp fp (a.put (some dq) gq)) w) :
    ∀ fp fq a w, J fp fq a w → wpAnyH P md ops Q S (n + missV fp + missV fq) (L fp.isSome fq.isSome) (putV dq fq (putV dp fp a)) w := by
  have sx1 : ∀ fp gq a w, J fp (some gq) a w → wpAnyH P md ops Q S (n + missV fp) (L fp.isSome true) (putV dq (some gq) (putV dp fp a)) w := fun fp gq a w h => by
    have := next fp gq a w h
    cases fp with
    | none => exact this
    | some gp =>
      rw [show putV dq (some gq) (putV dp (some gp) a) = (a.put (some dp) gp).put (some dq) gq from rfl, putV_comm a hpq]
      exact this
  have s10 : ∀ gp a w, J (some gp) none a w → wpAnyH P md ops Q S (n + 1) (L true false) (putV dp (some gp) a) w := fun gp a w h => by
    refine wpAnyH_within r10 fun i hi => ?_
    obtain rfl := List.mem_singleton.1 hi
    refine wpOp_strip hq lqp eqp selq (hQp _ _) (wpOp_mono (fun a' w' h' => ?_) (mq (some gp) a w h))
    obtain ⟨v, rfl, hj⟩ := h'
    refine ⟨JS _ _ _ _ hj, ?_⟩
    rw [Lq, putV_comm a (Ne.symm hpq)]
    exact sx1 (some gp) _ _ _ hj
  intro fp fq a w h
  cases fq with
  | some gq => exact sx1 fp gq a w h
  | none =>
    cases fp with
    | some gp => exact s10 _ _ _ h
    | none =>
      refine wpAnyH_within r00 fun i hi => ?_
      rcases List.mem_cons.1 hi with rfl | hi
      · refine wpOp_mono (fun a' w' h' => ?_) (mp none a w h)
        obtain ⟨v, rfl, hj⟩ := h'
        refine ⟨JS _ _ _ _ hj, ?_⟩
        show wpAnyH P md ops Q S (n + 1) ((L false false).setIfInBounds _ true) _ _
        rw [Lp]
        exact s10 _ _ _ hj
      · obtain rfl := List.mem_singleton.1 hi
        refine wpOp_mono (fun a' w' h' => ?_) (mq none a w h)
        obtain ⟨v, rfl, hj⟩ := h'
        refine ⟨JS _ _ _ _ hj, ?_⟩
        show wpAnyH P md ops Q S (n + 1) ((L false false).setIfInBounds _ true) _ _
        rw [Lq]
        exact sx1 none _ _ _ hj
end
end Go.Proofs.Yteceinojmdgmeaa


/- Append of bytes, whatever the source, with the result's own block told. -/
namespace Go.Proofs.Yteceinojmdgmeaa
open Go.RowKit
set_option linter.unusedVariables false
set_option linter.unusedSimpArgs false

theorem run_appB (w : World) (ty : TypeId) (base : Nat) (v : Value) (l : List Nat) (hown : OwnB w base v l) (ox : Option Addr) (m c : Nat) (news : List Nat) (hm : news.length = m) (hby : BytesN w ox news) (hl : l.length + m ≤ 140737488355328) (hbase : base ≤ w.heap.size) :
    ∃ v' w', (Builtin.append_ #[23, 23] ty #[v, .slice ox m c]).run Try.prog w = .ok v' w' ∧ OwnB w' base v' (l ++ news) ∧ w.grownBy w' v.ownBlock ∧ (v'.ownBlock = v.ownBlock ∨ v'.ownBlock = some w.heap.size) := by
  subst hm
  obtain ⟨i0, hi0, hz0, hz1, hz2⟩ := info_parts u8_info
  cases ox with
  | none =>
    have h0 : news.length = 0 := by
      by_cases h0 : news.length = 0
      · exact h0
      · obtain ⟨_, e, _⟩ := hby 0 (by omega)
        cases e
    rw [h0]
    have hn : news = [] := List.length_eq_zero_iff.1 h0
    subst hn
    have hr : (Builtin.append_ #[23, 23] ty #[v, .slice none 0 c]).run Try.prog w = .ok v w := by
      rcases hown.2 with ⟨rfl, _⟩ | ⟨g, cap, cur, rfl, _, _, hnc, _⟩
      · simp [Builtin.append_, run_underlying Try.underlying23, sizeOf, typeInfo, hi0, Builtin.lenOf, Builtin.firstCells]
      · simp [Builtin.append_, run_underlying Try.underlying23, sizeOf, typeInfo, hi0, Builtin.lenOf, Builtin.firstCells, hnc, storeCells]
    exact ⟨v, w, hr, by rw [List.append_nil]; exact hown, ⟨rfl, rfl, rfl, Nat.le_refl _, fun _ _ _ => rfl⟩, .inl rfl⟩
  | some ad =>
    obtain ⟨v', w', hr, h2, h3, _, h5⟩ := run_append_own_at (P := Try.prog) w base 23 ty 5 i0 _ 1 1 Try.underlying23 hi0 hz0 hz1 hz2 rfl (by omega) v _ _ hown ad _ c (news.map fun n : Nat => Value.int .u8 (n : Int)) (len_bytes news) (by
      intro j u hu
      obtain ⟨y, hy, rfl⟩ := by simpa using hu
      have hj : j < news.length := (List.getElem?_eq_some_iff.1 hy).1
      obtain ⟨a1, ha, hc⟩ := hby j hj
      obtain rfl := Option.some.inj ha
      rw [hc, List.getD_eq_getElem?_getD, hy]
      rfl) (one_bytes news) (by unfold maxLen; omega) (by omega) hbase
    exact ⟨v', w', hr, ownB_app h2, h3, h5⟩
section
variable {ops : Array Oper} {Q : Exit → Act → World → Prop}
/-- In the midst of a region that draws. -/
theorem wpOp_appB {j : Nat} {o : Oper} {d : Tmp} {a : Act} {w : World} {K : Act → World → Prop} (hj : ops[j]? = some o) (hgd : o.guard = none) (hd : o.dst = some d) (s x : Operand)
    (ho : o.op = .call { callee := .builtin .append, args := #[s, x], argTypes := #[23, 23] })
    (base : Nat) (v : Value) (l : List Nat) (hs : a.eval s = v) (hown : OwnB w base v l) (ox : Option Addr) (m c : Nat) (news : List Nat) (hx : a.eval x = .slice ox m c) (hm : news.length = m) (hby : BytesN w ox news) (hl : l.length + m ≤ 140737488355328) (hbase : base ≤ w.heap.size)
    (h : ∀ v' w', OwnB w' base v' (l ++ news) → w.grownBy w' v.ownBlock → (v'.ownBlock = v.ownBlock ∨ v'.ownBlock = some w.heap.size) → K (a.put (some d) v') w') : wpOp Try.prog ops Q j K a w := by
  obtain ⟨v', w', hr, h2, h3, h4⟩ := run_appB w o.type base v l hown ox m c news hm hby hl hbase
  unfold wpOp
  simp only [hj, Region.wanted, hgd, if_true]
  refine .inl ?_
  unfold Oper.wp execOp
  simp only [ho, resolve, invoke, builtin, Sem.run_bind, Sem.run_pure, Result.andThen_ok, List.map_toArray, List.map_cons, List.map_nil, hs, hx, hr]
  show K (a.put o.dst v') w'
  rw [hd]
  exact h v' w' h2 h3 h4
/-- In a plain region. -/
theorem wpList_appB {rest : List Oper} {o : Oper} {a : Act} {w : World} (hgd : o.guard = none) (s x : Operand)
    (ho : o.op = .call { callee := .builtin .append, args := #[s, x], argTypes := #[23, 23] })
    (base : Nat) (v : Value) (l : List Nat) (hs : a.eval s = v) (hown : OwnB w base v l) (ox : Option Addr) (m c : Nat) (news : List Nat) (hx : a.eval x = .slice ox m c) (hm : news.length = m) (hby : BytesN w ox news) (hl : l.length + m ≤ 140737488355328) (hbase : base ≤ w.heap.size)
    (h : ∀ v' w', OwnB w' base v' (l ++ news) → w.grownBy w' v.ownBlock → (v'.ownBlock = v.ownBlock ∨ v'.ownBlock = some w.heap.size) → wpList Try.prog ops Q rest (a.put o.dst v') w') : wpList Try.prog ops Q (o :: rest) a w := by
  obtain ⟨v', w', hr, h2, h3, h4⟩ := run_appB w o.type base v l hown ox m c news hm hby hl hbase
  refine wpList_plain hgd fun K hK => ?_
  unfold Oper.wp execOp
  simp only [ho, resolve, invoke, builtin, Sem.run_bind, Sem.run_pure, Result.andThen_ok, List.map_toArray, List.map_cons, List.map_nil, hs, hx, hr]
  exact hK _ _ (h v' w' h2 h3 h4)
end
/-- What a call owns, with its room. -/
theorem OwnB.form3 {w : World} {B : Nat} {v : Value} {l : List Nat} (h : OwnB w B v l) : ∃ oa cap, v = .slice oa l.length cap ∧ BytesN w oa l ∧ l.length ≤ cap ∧ (∀ a, oa = some a → B ≤ a.block ∧ a.block < w.heap.size) ∧ v.ownBlock = oa.map (·.block) := by
  obtain ⟨oa, cap, rfl, hby, hlt⟩ := ownB_bytes h
  refine ⟨oa, cap, rfl, hby, ?_, fun a ha => ?_, ?_⟩
  · rcases h.2 with ⟨hv, h0⟩ | ⟨g, cap', cur, hv, hb, hr, h1, h2, h3, _⟩
    · omega
    · simp only [Value.slice.injEq] at hv
      obtain ⟨rfl, _, rfl⟩ := hv
      exact h1
  · rcases h.2 with ⟨hv, _⟩ | ⟨g, cap', cur, hv, hb, hr, h1, h2, h3, _⟩
    · simp only [Value.slice.injEq] at hv
      obtain ⟨rfl, _, _⟩ := hv
      cases ha
    · simp only [Value.slice.injEq] at hv
      obtain ⟨rfl, _, rfl⟩ := hv
      obtain rfl := Option.some.inj ha
      exact ⟨hb, (Array.getElem?_eq_some_iff.1 hr).1⟩
  · cases oa <;> rfl
/-- An empty slice that is made. -/
theorem ownB_made (w : World) (B : Nat) (hB : B ≤ w.heap.size) : OwnB (w.alloc (.cells #[] 5)) B (.slice (some ⟨w.heap.size, 0, none⟩) 0 0) [] :=
  ⟨rfl, .inr ⟨_, 0, #[], rfl, hB, heap_alloc_new w _, Nat.le_refl _, Nat.zero_le _, rfl, rfl⟩⟩
/-- An empty slice, made in the midst of a region that draws. -/
theorem wpOp_slice0 {ops : Array Oper} {Q : Exit → Act → World → Prop} {j : Nat} {o : Oper} {d : Tmp} {a : Act} {w : World} {K : Act → World → Prop} (hj : ops[j]? = some o) (hgd : o.guard = none) (hd : o.dst = some d)
    (ho : o.op = .buildSlice 23 0 #[]) (h : K (a.put (some d) (.slice (some ⟨w.heap.size, 0, none⟩) 0 0)) (w.alloc (.cells #[] 5))) : wpOp Try.prog ops Q j K a w := by
  obtain ⟨i0, hi0, hz0, hz1, hz2⟩ := info_parts u8_info
  have hr : (Instr.buildSlice 23 0 #[]).run Try.prog w = .ok (.slice (some ⟨w.heap.size, 0, none⟩) 0 0) (w.alloc (.cells #[] 5)) := by
    simp [Instr.buildSlice, run_underlying Try.underlying23, sizeOf, typeInfo, hi0, Instr.fill, newRow]
    rw [show Array.map (fun _ : Nat => (default : Value)) (Array.range 0) = #[] from by apply Array.ext <;> simp]
  unfold wpOp
  simp only [hj, Region.wanted, hgd, if_true]
  refine .inl ?_
  unfold Oper.wp execOp
  simp only [ho, Sem.run_bind, Sem.run_pure, Result.andThen_ok, List.map_toArray, List.map_nil, hr]
  show K (a.put o.dst _) _
  rw [hd]
  exact h
end Go.Proofs.Yteceinojmdgmeaa

