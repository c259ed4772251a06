/- Regions that draw their order and make variables: where the variables are made may come anywhere between the calls. -/
import Derived.WalkKit
import Derived.Orders
import Derived.OrdersHeld
import Derived.Laws.Rows
namespace Go.Proofs.Yteceinojmdgmeaa
open Go.RowKit
set_option linter.unusedVariables false
set_option linter.unusedSimpArgs false

section
variable {P : Program} {ops : Array Oper} {Q : Exit → Act → World → Prop} {md : Region.Mode}
/-- An operation that does not look at a slot does the same whatever the slot holds. -/
theorem wpOp_strip {j : Nat} {oj : Oper} {d : Tmp} {v : Value} (hj : ops[j]? = some oj) (hl : (oj.looksAt ops).contains d = false) (hd : oj.dst ≠ some d) (hs : ∀ cs b, oj.op ≠ .select cs b)
    (hQ : ∀ c a w, Q (.panic c) a w → Q (.panic c) (a.put (some d) v) w) {K : Act → World → Prop} {a : Act} {w : World}
    (h : wpOp P ops Q j (fun a' w' => K (a'.put (some d) v) w') a w) : wpOp P ops Q j K (a.put (some d) v) w := by
  have h1 : ∀ e, some d = some e → e ∉ oj.looksAt ops := fun e he => by
    injection he with he
    subst he
    intro hm
    rw [List.contains_iff_mem.2 hm] at hl
    cases hl
  have h2 : ∀ e, some d = some e → oj.dst ≠ some e := fun e he => by injection he with he; subst he; exact hd
  unfold wpOp at *
  simp only [hj] at *
  rw [wanted_put oj a (some d) v h1]
  split
  · rename_i hw
    simp only [hw, if_true] at h
    rcases h with h | ⟨hasks, hlets⟩
    case inr => exact .inr ⟨by unfold Oper.asks at *; rw [execOp_put oj hs a (some d) v h1]; exact hasks, hlets⟩
    refine .inl ?_
    unfold Oper.wp at *
    rw [execOp_put oj hs a (some d) v h1]
    generalize (execOp a.eval oj).run P w = r at *
    cases r with
    | ok n w' =>
      cases n <;> simp only [Oper.upon] at h ⊢
      case value u => rw [Act.put_comm a v u h2]; exact h
      case skip => rw [Act.put_comm a v undef h2]; exact h
      case defer x =>
        have e := Act.put_comm ({ a with defers := x :: a.defers } : Act) v undef h2
        rw [show ({ a.put (some d) v with defers := x :: (a.put (some d) v).defers } : Act) = ({ a with defers := x :: a.defers } : Act).put (some d) v from Act.put_defers a (some d) v x, e]
        exact h
      case enter f args =>
        refine Calls.mono h fun e w'' he => ?_
        cases e with
        | returned u => simp only at he ⊢; rw [Act.put_comm a v u h2]; exact he
        | panicked c => exact hQ _ _ _ he
        | outgrown => exact he
      case row row args => exact Rows.mono h fun u w'' he => by rw [Act.put_comm a v u h2]; exact he
    | halt x w' =>
      cases x <;> simp only [Oper.upon] at h ⊢
      case panic u => exact hQ _ _ _ h
  · rename_i hw
    simp only [hw] at h
    rw [Act.put_comm a v undef h2]
    exact h
/-- A slot that a made variable's address is put into, once it is made. -/
def putO (d : Tmp) (f : Option Nat) (a : Act) : Act := match f with | some g => a.put (some d) (.pointer (some ⟨g, 0, none⟩)) | none => a
/-- An operation that makes a variable. -/
structure Makes (P : Program) (ops : Array Oper) (p : Nat) (d : Tmp) (z : Obj) : Prop where
  get : ∃ o, ops[p]? = some o ∧ o.guard = none ∧ o.dst = some d ∧ ∀ ρ w, (execOp ρ o).run P w = .ok (.value (.pointer (some ⟨w.heap.size, 0, none⟩))) (w.alloc z)
theorem Makes.wpOp {p : Nat} {d : Tmp} {z : Obj} (h : Makes P ops p d z) {K : Act → World → Prop} {a : Act} {w : World} (hk : K (a.put (some d) (.pointer (some ⟨w.heap.size, 0, none⟩))) (w.alloc z)) : wpOp P ops Q p K a w := by
  obtain ⟨o, h1, h2, h3, h4⟩ := h
  unfold Go.wpOp
  simp only [h1, Region.wanted, h2, if_true]
  refine .inl ?_
  unfold Oper.wp
  rw [h4]
  show K (a.put o.dst _) _
  rw [h3]
  exact hk
def missing (f : Option Nat) : Nat := match f with | some _ => 0 | none => 1
/-- Two variables are still to be made, and nothing else may come up till they are. -/
theorem made_last {S : World → Prop} {p q : Nat} {dp dq : Tmp} {zp zq : Obj} (hp : Makes P ops p dp zp) (hq : Makes P ops q dq zq) {J : Option Nat → Option Nat → World → Prop} {L : Bool → Bool → Array Bool} {A : Act}
    (Lp : ∀ b, (L false b).setIfInBounds p true = L true b) (Lq : ∀ b, (L b false).setIfInBounds q true = L b true)
    (r00 : Region.ready md ops (L false false) = [p, q]) (r01 : Region.ready md ops (L false true) = [p]) (r10 : Region.ready md ops (L true false) = [q]) (hpq : dp ≠ dq)
    (jp : ∀ fq w, J none fq w → J (some w.heap.size) fq (w.alloc zp)) (jq : ∀ fp w, J fp none w → J fp (some w.heap.size) (w.alloc zq)) (JS : ∀ fp fq w, J fp fq w → S w) (n : Nat)
    (fin : ∀ gp gq w, J (some gp) (some gq) w → wpAnyH P md ops Q S n (L true true) (putO dq (some gq) (putO dp (some gp) A)) w) :
    ∀ fp fq w, J fp fq w → wpAnyH P md ops Q S (n + missing fp + missing fq) (L fp.isSome fq.isSome) (putO dq fq (putO dp fp A)) w := by
  have s11 := fin
  have s01 : ∀ gq w, J none (some gq) w → wpAnyH P md ops Q S (n + 1) (L false true) (putO dq (some gq) A) w := fun gq w h => by
    refine wpAnyH_all r01 (by simp) fun i hi => ?_
    obtain rfl := List.mem_singleton.1 hi
    refine hp.wpOp ⟨JS _ _ _ (jp _ _ h), ?_⟩
    rw [Lp]
    have := s11 _ _ _ (jp _ _ h)
    simp only [putO] at this ⊢
    rw [Act.put_comm A (x := some dq) (y := some dp) _ _ (fun e he => by injection he with he; subst he; intro h2; injection h2 with h2; exact hpq h2)]
    exact this
  have s10 : ∀ gp w, J (some gp) none w → wpAnyH P md ops Q S (n + 1) (L true false) (putO dp (some gp) A) w := fun gp w h => by
    refine wpAnyH_all r10 (by simp) fun i hi => ?_
    obtain rfl := List.mem_singleton.1 hi
    refine hq.wpOp ⟨JS _ _ _ (jq _ _ h), ?_⟩
    rw [Lq]
    exact s11 _ _ _ (jq _ _ h)
  intro fp fq w h
  cases fp with
  | some gp =>
    cases fq with
    | some gq => exact s11 _ _ _ h
    | none => exact s10 _ _ h
  | none =>
    cases fq with
    | some gq => exact s01 _ _ h
    | none =>
      refine wpAnyH_all r00 (by simp) fun i hi => ?_
      rcases List.mem_cons.1 hi with rfl | hi
      · refine hp.wpOp ⟨JS _ _ _ (jp _ _ h), ?_⟩
        show wpAnyH P md ops Q S (n + 1) ((L false false).setIfInBounds _ true) _ _
        rw [Lp]
        exact s10 _ _ (jp _ _ h)
      · obtain rfl := List.mem_singleton.1 hi
        refine hq.wpOp ⟨JS _ _ _ (jq _ _ h), ?_⟩
        show wpAnyH P md ops Q S (n + 1) ((L false false).setIfInBounds _ true) _ _
        rw [Lq]
        exact s01 _ _ (jq _ _ h)
/-- One operation more, a call say, and the two variables before it or behind it. -/
theorem made_step {S : World → Prop} {p q c : Nat} {dp dq : Tmp} {zp zq : Obj} (hp : Makes P ops p dp zp) (hq : Makes P ops q dq zq) {J J' : Option Nat → Option Nat → Act → World → Prop} {L L' : Bool → Bool → Array Bool}
    (Lp : ∀ b, (L false b).setIfInBounds p true = L true b) (Lq : ∀ b, (L b false).setIfInBounds q true = L b true) (Lc : ∀ b b', (L b b').setIfInBounds c true = L' b b')
    (r00 : Region.ready md ops (L false false) = [c, p, q]) (r01 : Region.ready md ops (L false true) = [c, p]) (r10 : Region.ready md ops (L true false) = [c, q]) (r11 : Region.ready md ops (L true true) = [c]) (hpq : dp ≠ dq)
    {oc : Oper} (hc : ops[c]? = some oc) (lp : (oc.looksAt ops).contains dp = false) (lq : (oc.looksAt ops).contains dq = false) (ep : oc.dst ≠ some dp) (eq : oc.dst ≠ some dq) (sel : ∀ cs b, oc.op ≠ .select cs b)
    (hQp : ∀ d v c a w, Q (.panic c) a w → Q (.panic c) (a.put (some d) v) w)
    (jp : ∀ fq a w, J none fq a w → J (some w.heap.size) fq a (w.alloc zp)) (jq : ∀ fp a w, J fp none a w → J fp (some w.heap.size) a (w.alloc zq))
    (main : ∀ fp fq a w, J fp fq a w → wpOp P ops Q c (J' fp fq) a w) (JS : ∀ fp fq a w, J fp fq a w → S w) (JS' : ∀ fp fq a w, J' fp fq a w → S w) (n : Nat)
    (next : ∀ fp fq a w, J' fp fq a w → wpAnyH P md ops Q S (n + missing fp + missing fq) (L' fp.isSome fq.isSome) (putO dq fq (putO dp fp a)) w) :
    ∀ fp fq a w, J fp fq a w → wpAnyH P md ops Q S (n + 1 + missing fp + missing fq) (L fp.isSome fq.isSome) (putO dq fq (putO dp fp a)) w := by
  have go : ∀ fp fq a w, J fp fq a w → wpOp P ops Q c (fun a' w' => S w' ∧ wpAnyH P md ops Q S (n + missing fp + missing fq) (L' fp.isSome fq.isSome) a' w') (putO dq fq (putO dp fp a)) w := fun fp fq a w h => by
    have h0 : wpOp P ops Q c (fun a' w' => S w' ∧ wpAnyH P md ops Q S (n + missing fp + missing fq) (L' fp.isSome fq.isSome) (putO dq fq (putO dp fp a')) w') a w := wpOp_mono (fun a' w' h' => ⟨JS' _ _ _ _ h', next fp fq a' w' h'⟩) (main fp fq a w h)
    cases fp with
    | none =>
      cases fq with
      | none => exact h0
      | some gq => exact wpOp_strip hc lq eq sel (hQp _ _) h0
    | some gp =>
      cases fq with
      | none => exact wpOp_strip hc lp ep sel (hQp _ _) h0
      | some gq => exact wpOp_strip (K := fun a' w' => S w' ∧ wpAnyH P md ops Q S (n + missing (some gp) + missing (some gq)) (L' (some gp).isSome (some gq).isSome) a' w') hc lq eq sel (hQp _ _) (wpOp_strip hc lp ep sel (hQp _ _) h0)
  have s11 : ∀ gp gq a w, J (some gp) (some gq) a w → wpAnyH P md ops Q S (n + 1) (L true true) (putO dq (some gq) (putO dp (some gp) a)) w := fun gp gq a w h => by
    refine wpAnyH_all r11 (by simp) fun i hi => ?_
    obtain rfl := List.mem_singleton.1 hi
    rw [Lc]
    exact go _ _ a w h
  have s01 : ∀ gq a w, J none (some gq) a w → wpAnyH P md ops Q S (n + 1 + 1) (L false true) (putO dq (some gq) a) w := fun gq a w h => by
    refine wpAnyH_all r01 (by simp) fun i hi => ?_
    rcases List.mem_cons.1 hi with rfl | hi
    · rw [Lc]
      exact go none (some gq) a w h
    · obtain rfl := List.mem_singleton.1 hi
      refine hp.wpOp ⟨JS _ _ _ _ (jp _ _ _ h), ?_⟩
      rw [Lp]
      have := s11 _ _ _ _ (jp _ _ _ h)
      simp only [putO] at this ⊢
      rw [Act.put_comm a (x := some dq) (y := some dp) _ _ (fun e he => by injection he with he; subst he; intro h2; injection h2 with h2; exact hpq h2)]
      exact this
  have s10 : ∀ gp a w, J (some gp) none a w → wpAnyH P md ops Q S (n + 1 + 1) (L true false) (putO dp (some gp) a) w := fun gp a w h => by
    refine wpAnyH_all r10 (by simp) fun i hi => ?_
    rcases List.mem_cons.1 hi with rfl | hi
    · rw [Lc]
      exact go (some gp) none a w h
    · obtain rfl := List.mem_singleton.1 hi
      refine hq.wpOp ⟨JS _ _ _ _ (jq _ _ _ h), ?_⟩
      rw [Lq]
      exact s11 _ _ _ _ (jq _ _ _ h)
  intro fp fq a w h
  cases fp with
  | some gp =>
    cases fq with
    | some gq => exact s11 _ _ _ _ h
    | none => exact s10 _ _ _ h
  | none =>
    cases fq with
    | some gq => exact s01 _ _ _ h
    | none =>
      refine wpAnyH_all r00 (by simp) fun i hi => ?_
      rcases List.mem_cons.1 hi with rfl | hi
      · show wpOp P ops Q _ (fun a' w' => S w' ∧ wpAnyH P md ops Q S (n + 1 + 1) ((L false false).setIfInBounds _ true) a' w') _ _
        rw [Lc]
        exact go none none a w h
      · rcases List.mem_cons.1 hi with rfl | hi
        · refine hp.wpOp ⟨JS _ _ _ _ (jp _ _ _ h), ?_⟩
          show wpAnyH P md ops Q S (n + 1 + 1) ((L false false).setIfInBounds _ true) _ _
          rw [Lp]
          exact s10 _ _ _ (jp _ _ _ h)
        · obtain rfl := List.mem_singleton.1 hi
          refine hq.wpOp ⟨JS _ _ _ _ (jq _ _ _ h), ?_⟩
          show wpAnyH P md ops Q S (n + 1 + 1) ((L false false).setIfInBounds _ true) _ _
          rw [Lq]
          exact s01 _ _ _ (jq _ _ _ h)
/-- What an operation does that does not look at the two slots. -/
theorem exec_putO (o : Oper) (hs : ∀ cs b, o.op ≠ .select cs b) (a : Act) (d : Tmp) (f : Option Nat) (h : (o.looksAt ops).contains d = false) : execOp (putO d f a).eval o = execOp a.eval o := by
  cases f with
  | none => rfl
  | some g =>
    refine execOp_put (ops := ops) o hs a (some d) _ fun e he => ?_
    injection he with he
    subst he
    intro hm
    rw [List.contains_iff_mem.2 hm] at h
    cases h
theorem putO_put (a : Act) (d e : Tmp) (f : Option Nat) (v : Value) (h : d ≠ e) : (putO d f a).put (some e) v = putO d f (a.put (some e) v) := by
  cases f with
  | none => rfl
  | some g => exact Act.put_comm a (x := some d) (y := some e) _ _ (fun k hk h2 => by injection hk with hk; injection h2 with h2; exact h (hk.trans h2.symm))
/-- An operation that yields its value in every world of the class is taken first, the two variables made or not. -/
theorem made_take {S : World → Prop} {c : Nat} {dp dq d : Tmp} {oc : Oper} {v : Value} {a : Act} {J : Option Nat → Option Nat → World → Prop} {L L' : Bool → Bool → Array Bool}
    (Lc : ∀ b b', (L b b').setIfInBounds c true = L' b b') (hf : ∀ b b', Region.free md ops (L b b') c = true) (hr : ∀ b b', (Region.ready md ops (L b b')).contains c = true)
    (hc : ops[c]? = some oc) (hg : oc.guard = none) (hd : oc.dst = some d) (lp : (oc.looksAt ops).contains dp = false) (lq : (oc.looksAt ops).contains dq = false) (ep : dp ≠ d) (eq : dq ≠ d) (hs : Region.noSelect ops = true)
    (hQ : ∀ c a w, Q (.panic c) (a.put (some d) v) w → Q (.panic c) a w) (hy : ∀ w, S w → (execOp a.eval oc).run P w = .ok (.value v) w) (JS : ∀ fp fq w, J fp fq w → S w) (n : Nat)
    (next : ∀ fp fq w, J fp fq w → wpAnyH P md ops Q S (n + missing fp + missing fq) (L' fp.isSome fq.isSome) (putO dq fq (putO dp fp (a.put (some d) v))) w) :
    ∀ fp fq w, J fp fq w → wpAnyH P md ops Q S (n + 1 + missing fp + missing fq) (L fp.isSome fq.isSome) (putO dq fq (putO dp fp a)) w := by
  intro fp fq w h
  have e : n + 1 + missing fp + missing fq = n + missing fp + missing fq + 1 := by omega
  rw [e]
  have hsel := Region.noSelect_spec hs c oc
  refine wpAnyH_take hc hs (hf _ _) (hr _ _) (by rw [hd]; exact hQ) (.inl ⟨by simp [Region.wanted, hg], fun W hW => ?_⟩) (JS _ _ _ h) ?_
  · rw [exec_putO (ops := ops) oc (fun cs b => hsel cs b hc) _ dq fq lq, exec_putO (ops := ops) oc (fun cs b => hsel cs b hc) _ dp fp lp]
    exact hy W hW
  · rw [Lc, hd, putO_put _ _ _ _ _ eq, putO_put _ _ _ _ _ ep]
    exact next fp fq w h
/-- A call of a function, in the midst of a region. -/
theorem wpOp_call {c : Nat} {oc : Oper} {d : Tmp} {a : Act} {w : World} {f : FuncId} {args : Array Value} {R : Ending → World → Prop} {K : Act → World → Prop} (hcalls : Calls P f args w R)
    (hc : ops[c]? = some oc) (hg : oc.guard = none) (hd : oc.dst = some d) (hx : (execOp a.eval oc).run P w = .ok (.enter f args) w)
    (hR : ∀ e w', R e w' → ∃ v, e = .returned v ∧ K (a.put (some d) v) w') : wpOp P ops Q c K a w := by
  unfold Go.wpOp
  simp only [hc, Region.wanted, hg, if_true]
  refine .inl ?_
  unfold Oper.wp
  rw [hx]
  refine Calls.mono hcalls fun e w' h => ?_
  obtain ⟨v, rfl, hk⟩ := hR e w' h
  show K (a.put oc.dst v) w'
  rw [hd]
  exact hk
theorem name_act {S : World → Prop} {fuel : Nat} {listed : Array Bool} {a : Act} {w : World} (h : ∀ A, A = a → wpAnyH P md ops Q S fuel listed A w) : wpAnyH P md ops Q S fuel listed a w := h a rfl
/-- The row of a variable that is made, as long as it is there. -/
def ZO (B : Nat) (z : Obj) (f : Option Nat) (W : World) : Prop := ∀ g, f = some g → W.heap[g]? = some z ∧ B ≤ g
theorem ZO.none (B : Nat) (z : Obj) (W : World) : ZO B z none W := fun g h => by cases h
theorem ZO.step {B : Nat} {z : Obj} {f : Option Nat} {W W' : World} (h : ZO B z f W) (hb : Below W.heap.size W W') : ZO B z f W' := fun g hg =>
  ⟨(hb.block g (Array.getElem?_eq_some_iff.1 (h g hg).1).1).trans (h g hg).1, (h g hg).2⟩
theorem ZO.made {B : Nat} (z : Obj) {W : World} (h : B ≤ W.heap.size) : ZO B z (some W.heap.size) (W.alloc z) := fun g hg => by
  injection hg with hg
  subst hg
  exact ⟨heap_alloc_new W z, h⟩
theorem ZO.alloc {B : Nat} {z : Obj} {f : Option Nat} {W : World} (h : ZO B z f W) (o : Obj) : ZO B z f (W.alloc o) := h.step ((Below.refl _ _).alloc (Nat.le_refl _) o)
end
end Go.Proofs.Yteceinojmdgmeaa

