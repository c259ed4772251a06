/- EyHp · EyRf: joined by a program, for a claim has at most 60 files. -/
import Derived.Test.YtdflkikhmngfiaaGreatDoorZ22
import Derived.RangeFuncNested
import Derived.RangeFuncBound
import Derived.RangeFuncCalls
import Derived.RangeFuncLeaves
import Derived.RangeFuncBox
import Derived.RangeFuncFrom
import Derived.Shelf.Abstract
import Derived.Shelf.RegionOpen
import Derived.WalkKit
import Derived.OwnWalkIn
import Derived.TacticsInMore
import Derived.LoopNIn
import Derived.LoopIn
/- A function that turns memory of its caller's: its law, with all else as it was. -/
namespace Go.Proofs.YtdflkikhmngfiaaGreatDoor
open Go.RowKit
set_option linter.unusedVariables false
set_option linter.unusedSimpArgs false
set_option linter.unusedSectionVars false

/-- Other ghosts. -/
@[reducible] def Sy.wg (S : Sy) (G : Nat → Option Obj) : Sy := ⟨S.env, S.fn, S.low, S.inv, G, S.up, S.keep⟩
theorem den_wg (S : Sy) (G : Nat → Option Obj) : @Xp.den (S.wg G) = @Xp.den S := by
  funext e
  induction e with
  | var i => rfl
  | int n => rfl
  | bool b => rfl
  | str l => rfl
  | nil => rfl
  | lnil => rfl
  | bin op k a b ia ib => simp only [Xp.den, ia, ib]
  | wrap k a ia => simp only [Xp.den, ia]
  | cmpi op a b ia ib => simp only [Xp.den, ia, ib]
  | eqs a b ia ib => simp only [Xp.den, ia, ib]
  | eqb a b ia ib => simp only [Xp.den, ia, ib]
  | not a ia => simp only [Xp.den, ia]
  | cat a b ia ib => simp only [Xp.den, ia, ib]
  | lens a ia => simp only [Xp.den, ia]
  | lenl a ia => simp only [Xp.den, ia]
  | «at» a b ia ib => simp only [Xp.den, ia, ib]
  | subs a b c ia ib ic => simp only [Xp.den, ia, ib, ic]
  | subl a b c ia ib ic => simp only [Xp.den, ia, ib, ic]
  | inb a b ia ib => simp only [Xp.den, ia, ib]
  | rng a b c ia ib ic => simp only [Xp.den, ia, ib, ic]
  | get a b z j ia ib => simp only [Xp.den, ia, ib]
  | cell a j ia => simp only [Xp.den, ia]
  | app f a ia => simp only [Xp.den, ia]; rfl
  | cons a b ia ib => simp only [Xp.den, ia, ib]
  | snoc a b ia ib => simp only [Xp.den, ia, ib]
  | catl a b ia ib => simp only [Xp.den, ia, ib]
  | ofB a ia => simp only [Xp.den, ia]
  | toB a ia => simp only [Xp.den, ia]
mutual
theorem rp_wg (S : Sy) (G : Nat → Option Obj) (ρ : Pm) : ∀ (x : AV) (v : Value), @AV.rp (S.wg G) ρ x v ↔ @AV.rp S ρ x v
  | .bool b, v => by simp only [AV.rp]
  | .int k n, v => by simp only [AV.rp]
  | .str l, v => by simp only [AV.rp]
  | .nilp, v => by simp only [AV.rp]
  | .ptr n o, v => by simp only [AV.rp]
  | .nils, v => by simp only [AV.rp]
  | .sl n o len cap, v => by simp only [AV.rp]
  | .os n z e len, v => by simp only [AV.rp]
  | .emp, v => by simp only [AV.rp]
  | .nilm, v => by simp only [AV.rp]
  | .map n, v => by simp only [AV.rp]
  | .nilf, v => by simp only [AV.rp]
  | .func fn f c, v => by
    simp only [AV.rp]
    constructor
    · rintro ⟨a, b, h1, h2, h3⟩; exact ⟨a, b, h1, (rps_wg S G ρ f _).1 h2, (rps_wg S G ρ c _).1 h3⟩
    · rintro ⟨a, b, h1, h2, h3⟩; exact ⟨a, b, h1, (rps_wg S G ρ f _).2 h2, (rps_wg S G ρ c _).2 h3⟩
  | .nili, v => by simp only [AV.rp]
  | .iface t x, v => by
    simp only [AV.rp]
    constructor
    · rintro ⟨y, h1, h2⟩; exact ⟨y, h1, (rp_wg S G ρ x _).1 h2⟩
    · rintro ⟨y, h1, h2⟩; exact ⟨y, h1, (rp_wg S G ρ x _).2 h2⟩
  | .agg l, v => by
    simp only [AV.rp]
    constructor
    · rintro ⟨y, h1, h2⟩; exact ⟨y, h1, (rps_wg S G ρ l _).1 h2⟩
    · rintro ⟨y, h1, h2⟩; exact ⟨y, h1, (rps_wg S G ρ l _).2 h2⟩
  | .tup l, v => by
    simp only [AV.rp]
    constructor
    · rintro ⟨y, h1, h2⟩; exact ⟨y, h1, (rps_wg S G ρ l _).1 h2⟩
    · rintro ⟨y, h1, h2⟩; exact ⟨y, h1, (rps_wg S G ρ l _).2 h2⟩
  | .sx s e, v => by simp only [AV.rp, den_wg S G]
  | .fp l, v => by
    simp only [AV.rp]
    constructor
    · rintro ⟨b, o, u, h1, h2, h3⟩; exact ⟨b, o, u, h1, (rps_wg S G ρ l _).1 h2, h3⟩
    · rintro ⟨b, o, u, h1, h2, h3⟩; exact ⟨b, o, u, h1, (rps_wg S G ρ l _).2 h2, h3⟩
  | .oe n z e, v => by simp only [AV.rp]
  | .ol n el e, v => by simp only [AV.rp, den_wg S G]
theorem rps_wg (S : Sy) (G : Nat → Option Obj) (ρ : Pm) : ∀ (l : List AV) (m : List Value), @AV.rps (S.wg G) ρ l m ↔ @AV.rps S ρ l m
  | [], m => by simp only [AV.rps]
  | x :: l, m => by
    simp only [AV.rps]
    constructor
    · rintro ⟨y, m', h1, h2, h3⟩; exact ⟨y, m', h1, (rp_wg S G ρ x _).1 h2, (rps_wg S G ρ l _).1 h3⟩
    · rintro ⟨y, m', h1, h2, h3⟩; exact ⟨y, m', h1, (rp_wg S G ρ x _).2 h2, (rps_wg S G ρ l _).2 h3⟩
end
theorem rp_eq_wg (S : Sy) (G : Nat → Option Obj) : @AV.rp (S.wg G) = @AV.rp S := by
  funext ρ x v
  exact propext (rp_wg S G ρ x v)
theorem repB_wg (S : Sy) (G : Nat → Option Obj) {ρ : Pm} {f c : Nat} {m : Mta} {cell : Nat → Option AV} {o : Obj} (h : @repB S ρ f c m cell o) : @repB (S.wg G) ρ f c m cell o := by
  cases m with
  | row el z sz opn =>
    obtain ⟨arr, fz, h1, h0, h2, h3⟩ := h
    exact ⟨arr, fz, h1, h0, fun i x hx => let ⟨v, h4, h5⟩ := h2 i x hx; ⟨v, h4, (rp_wg S G ρ x v).2 h5⟩, h3⟩
  | mp es =>
    obtain ⟨ms, clock, h1, h2, h3⟩ := h
    exact ⟨ms, clock, h1, h2, fun i p hp => let ⟨e, h4, h5, h6⟩ := h3 i p hp; ⟨e, h4, (rp_wg S G ρ p.1 _).2 h5, (rp_wg S G ρ p.2 _).2 h6⟩⟩
  | none => exact h
  | tok el sh e => exact h
  | dead => exact h
theorem tok_wg (S : Sy) (G : Nat → Option Obj) {B : Nat} {ρ : Pm} {w : World} {n : Nat} {el : TypeId} {sh : List Sh} {e : Xp} (h : @TokOK S B ρ w n el sh e) : @TokOK (S.wg G) B ρ w n el sh e := by
  unfold TokOK at h ⊢
  rw [den_wg S G]
  exact h
/-- A state with other ghosts. -/
theorem Rep.wg {S : Sy} {G : Nat → Option Obj} {B : Nat} {ρ : Pm} {h : Heap} {w : World} (hr : @Rep S B ρ h w) (hg : ∀ b o, G b = some o → w.heap[b]? = some o ∧ ∀ n f c, (mt h n).held = true → ρ n ≠ some (b, f, c)) : @Rep (S.wg G) B ρ h w :=
  @Rep.mk (S.wg G) B ρ h w hr.size (fun n hn => let ⟨b, f, c, o, h1, h2, h3, h4⟩ := hr.live n hn; ⟨b, f, c, o, h1, h2, h3, repB_wg S G h4⟩) hr.free hr.apart hr.inv hr.frz hr.sep (fun n el sh e h1 => tok_wg S G (hr.tok n el sh e h1)) hr.low hg
/-- No name holds the block. -/
def unheld (h : Heap) (ρ : Pm) (b : Nat) : Prop := ∀ n f c, (mt h n).held = true → ρ n ≠ some (b, f, c)
open Classical in
/-- All that no name holds. -/
noncomputable def ghAll (h : Heap) (ρ : Pm) (w : World) (b : Nat) : Option Obj := if unheld h ρ b then w.heap[b]? else none
theorem Rep.wgAll {S : Sy} {B : Nat} {ρ : Pm} {h : Heap} {w : World} (hr : @Rep S B ρ h w) : @Rep (S.wg (ghAll h ρ w)) B ρ h w := hr.wg fun b o hb => by
  unfold ghAll at hb
  split at hb
  · rename_i hu
    exact ⟨hb, hu⟩
  · cases hb
theorem ghAll_at {h : Heap} {ρ : Pm} {w : World} {b : Nat} (hb : b < w.heap.size) (hu : unheld h ρ b) : ghAll h ρ w b = some w.heap[b] := by
  unfold ghAll
  rw [if_pos hu, Array.getElem?_eq_getElem hb]
theorem wg_wg (S : Sy) (G G2 : Nat → Option Obj) : (S.wg G).wg G2 = S.wg G2 := rfl
theorem wg_self (S : Sy) : S.wg S.gh = S := rfl
/-- A function that turns its caller's memory. -/
theorem spec_heap {S : Sy} {P : Program} {f : FuncId} {fn : Func} {c : Code} {s sR : St} {rs : List Tm} {R : (Nat → Option Obj) → Rl} {ks : List Nat} {t : Nat} {x : AV} (Φ : Env → Prop) (hfn : P.funcs[f]? = some fn) (hb : fn.body = some c) (hres : ∀ (act : Act) (w : World) (v : Value), act.tmps[t]? = some v → (results fn act.tmps).run P w = .ok v w)
    (hs : ∀ G, @SpecK ks (S.wg G) P fn.ntmps fn rs c s [(.ret, sR)] (R G)) {B : Nat} {ρ : Pm} {W : World} {env : Env} {vs : Array Value} (hks : ∀ n ∈ ks, ∃ p, ρ n = some p) (hrep : @Rep (S.at env) B ρ s.hp W) (hn : vs.size ≤ fn.ntmps)
    (hfrm : ∀ t x, (t, x) ∈ s.a → ∃ v, vs[t]? = some v ∧ @AV.rp (S.at env) ρ x v) (hR : ∀ G, ∃ env', R G env (.inl (0, env')) ∧ Φ env') (hx : sR.fr.get t = some x) :
    Calls P f vs W fun e W' => ∃ env' ρ' v, Φ env' ∧ e = .returned v ∧ @AV.rp (S.at env') ρ' x v ∧ @Rep (S.at env') B ρ' sR.hp W' ∧ (∀ n ∈ ks, ρ' n = ρ n) ∧ Below B W W' ∧ ∀ j, j < W.heap.size → unheld s.hp ρ j → W'.heap[j]? = W.heap[j]? ∧ unheld sR.hp ρ' j := by
  refine calls_of_wp hfn hb ?_
  have hrG : @Rep ((S.wg (ghAll s.hp ρ W)).at env) B ρ s.hp W := Rep.wgAll (S := S.at env) hrep
  obtain ⟨env', hR', hΦ⟩ := hR (ghAll s.hp ρ W)
  refine hs (ghAll s.hp ρ W) (fun n => if n ∈ ks then ρ n else none) (fun n p h => ?_) B [] (fun _ _ => none) W _ env (.inl (0, env')) hR' _ W ⟨ρ, fun n p h => ?_, fun _ _ _ h => (by cases h), hrG, ?_, Below.refl _ _⟩ ?_
  · by_cases h1 : n ∈ ks
    · exact h1
    · have h : (if n ∈ ks then ρ n else none) = some p := h
      rw [if_neg h1] at h; cases h
  · have h : (if n ∈ ks then ρ n else none) = some p := h
    by_cases h1 : n ∈ ks
    · rw [if_pos h1] at h; exact h
    · rw [if_neg h1] at h; cases h
  · refine @Frm.mk ((S.wg (ghAll s.hp ρ W)).at env) [] _ fn.ntmps _ _ rfl ?_ (fun t x hx => ?_)
    · show (vs ++ Array.replicate (fn.ntmps - vs.size) undef).size = fn.ntmps
      rw [Array.size_append, Array.size_replicate]
      omega
    · obtain ⟨v, h1, h2⟩ := hfrm t x (putL_some hx)
      refine ⟨v, ?_, (rp_wg (S.at env) _ ρ x v).2 h2⟩
      have hlt := (Array.getElem?_eq_some_iff.1 h1).1
      show (vs ++ Array.replicate (fn.ntmps - vs.size) undef)[t]? = some v
      rw [Array.getElem?_append, if_pos hlt]
      exact h1
  · intro p hp act w ⟨ρ', k0, _, k1, k2, k3⟩
    injection hp with hp
    subst hp
    have k2 : @Frm ((S.at env').wg (ghAll s.hp ρ W)) [] ρ' fn.ntmps sR.fr act := k2
    obtain ⟨v, h1, h2⟩ := @Frm.slot ((S.at env').wg (ghAll s.hp ρ W)) _ _ _ _ _ k2 t x hx
    refine ⟨@Frm.defers ((S.at env').wg (ghAll s.hp ρ W)) _ _ _ _ _ k2, v, hres act w v h1, env', ρ', v, hΦ, rfl, (rp_wg (S.at env') _ ρ' x v).1 h2, ?_, fun n h => ?_, k3, fun j hj hu => ?_⟩
    · have k1 : @Rep ((S.at env').wg (ghAll s.hp ρ W)) B ρ' sR.hp w := k1
      have := Rep.wg (S := (S.at env').wg (ghAll s.hp ρ W)) (G := S.gh) k1 fun b o hb => ?_
      · exact this
      · obtain ⟨g1, g2⟩ := @Rep.gho (S.at env) _ _ _ _ hrep b o hb
        have hlt := (Array.getElem?_eq_some_iff.1 g1).1
        have h3 := @Rep.gho ((S.at env').wg (ghAll s.hp ρ W)) _ _ _ _ k1 b _ (ghAll_at hlt g2)
        rw [Array.getElem?_eq_getElem hlt] at g1
        injection g1 with g1
        rw [g1] at h3
        exact h3
    · obtain ⟨q, hq⟩ := hks n h
      rw [hq]
      exact k0 n q ((if_pos h).trans hq)
    · have h3 := @Rep.gho ((S.at env').wg (ghAll s.hp ρ W)) _ _ _ _ k1 j _ (ghAll_at hj hu)
      rw [Array.getElem?_eq_getElem hj]
      exact h3
end Go.Proofs.YtdflkikhmngfiaaGreatDoor


/- A range over a function that keeps what it has left in a cell of its own. -/
namespace Go.Proofs.YtdflkikhmngfiaaGreatDoor
open Go.RowKit
set_option linter.unusedVariables false
set_option linter.unusedSimpArgs false

/-- Between two rounds: a block turned, others made; whatever is no cells lies. -/
structure Moved (bx : Nat) (W W' : World) : Prop where
  os : W'.os = W.os
  tape : W'.tape = W.tape
  output : W'.output = W.output
  size : W.heap.size ≤ W'.heap.size
  block : ∀ k, k < W.heap.size → k ≠ bx → W'.heap[k]? = W.heap[k]?
theorem Moved.refl (bx : Nat) (W : World) : Moved bx W W := ⟨rfl, rfl, rfl, Nat.le_refl _, fun _ _ _ => rfl⟩
theorem Moved.trans {bx : Nat} {A B C : World} (h : Moved bx A B) (k : Moved bx B C) : Moved bx A C := ⟨k.os.trans h.os, k.tape.trans h.tape, k.output.trans h.output, Nat.le_trans h.size k.size, fun i hi hne => (k.block i (Nat.lt_of_lt_of_le hi h.size) hne).trans (h.block i hi hne)⟩
theorem Moved.of_below {bx : Nat} {W W' : World} (h : Below W.heap.size W W') : Moved bx W W' := ⟨h.os, h.tape, h.output, h.size, fun k hk _ => h.block k hk⟩
theorem Moved.setCell (bx i : Nat) (W : World) (v : Value) : Moved bx W (W.setCell ⟨bx, i, none⟩ v) := ⟨rfl, rfl, rfl, by simp [World.setCell], fun k _ hne => Below.heap_setCell _ _ _ k (fun e => hne (by first | exact e | exact e.symm))⟩
variable {n : Nat} {P : Program}
/-- What such a function owes: a list of rounds, or it stops. -/
def SeqSt {α : Type} (n : Nat) (P : Program) (g : Nat) (lb : Array Value) (encs : α → Array Value) (bx : Nat) (Kp : World → World → Prop) (xs0 : List α) (w : World) : Prop :=
  ∀ (l : Nat) (J Jx : List α → World → Prop) (W : World), Below w.heap.size w W → (∀ s A B, J s A → Moved bx A B → J s B) → (∀ s A B, Jx s A → Moved bx A B → Jx s B) →
    (∀ pre x W1, (∃ post, xs0 = pre ++ x :: post) → J pre W1 → YieldAt Fence.wide (n - 1) P l (encs x) W1 fun e W' =>
      (e = .returned (.bool true) ∧ J (pre ++ [x]) W' ∧ Kp W1 W') ∨ (e = .returned (.bool false) ∧ Jx (pre ++ [x]) W')) →
    J [] W → CallsIn Fence.wide n P g (#[.func (.yield l) #[] #[]] ++ lb) W fun e W' => (∃ v, e = .returned v) ∧ (J xs0 W' ∨ ∃ pre, Jx pre W')
/-- How a round may be left. -/
def RndPost {α : Type} (Kp : World → World → Prop) (I Ix : List α → World → Prop) (xs : List α) (W : World) : Exit → Act → World → Prop
  | .normal, _, W' => KeepsOthers W W' ∧ Kp W W' ∧ I xs W'
  | .ret, _, W' => KeepsOthers W W' ∧ Ix xs W'
  | _, _, _ => False
theorem range_st {α : Type} {g : Operand} {ps : Array Tmp} {assign body : Code} {Q : Exit → Act → World → Prop} {a : Act} {w : World} (h1 : 1 ≤ n)
    {gf : Nat} {lb : Array Value} (hg : a.eval g = .func (.func gf) #[] lb) (eg : ∀ args w, (callFunc gf args).run P w = .ok (.enter gf args) w)
    {encs : α → Array Value} {bx : Nat} {Kp : World → World → Prop} {xs0 : List α} {w0 : World} (hseq : SeqSt (n - 1) P gf lb encs bx Kp xs0 w0)
    (hKt : ∀ {A B C : World}, Kp A B → Kp B C → Kp A C) (hKb : ∀ (W : World) (l : Nat) (o o' : Obj), w.heap.size ≤ l → W.heap[l]? = some o → o.isCells = false → Kp W (W.putObj l o')) (hb0 : Below w0.heap.size w0 w) (hps : ∀ x, (encs x).size = ps.size) (hbx : bx < w.heap.size)
    (I Ix : List α → World → Prop) (hIb : ∀ s W l o o', I s W → w.heap.size ≤ l → W.heap[l]? = some o → o.isCells = false → I s (W.putObj l o')) (hIxb : ∀ s W l o o', Ix s W → w.heap.size ≤ l → W.heap[l]? = some o → o.isCells = false → Ix s (W.putObj l o'))
    (hIm : ∀ s A B, I s A → Moved bx A B → I s B) (hIxm : ∀ s A B, Ix s A → Moved bx A B → Ix s B) (h0 : I [] w) (a₁ : α → Act)
    (hassign : ∀ (l : Nat) (x : α) (W : World) (K : Act → World → Prop), K (a₁ x) W →
      assign.wpIn (Fence.wide.inRound l) (n - 1 - 1) P (Exit.then K (fun _ _ _ => False)) { tmps := (ps.zip (encs x)).foldl (fun t (p, v) => t.setIfInBounds p v) a.tmps, defers := [] } W)
    (hbody : ∀ (l : Nat) (pre : List α) (x : α) (W : World), (∃ post, xs0 = pre ++ x :: post) → I pre W → body.wpIn (Fence.wide.inRound l) (n - 1 - 1) P (RndPost Kp I Ix (pre ++ [x]) W) (a₁ x) W)
    (hdone : ∀ (D : Nat) (W : World), w.heap.size ≤ D → I xs0 W → W.heap[D]? = some (.deferred (some [])) → Q .normal { a with defers := { target := .collected D, args := #[] } :: a.defers } W)
    (hstop : ∀ (D : Nat) (pre : List α) (W : World), w.heap.size ≤ D → Ix pre W → W.heap[D]? = some (.deferred (some [])) → Code.ret.wpIn Fence.wide n P Q { a with defers := { target := .collected D, args := #[] } :: a.defers } W) :
    (Code.rangeFunc g ps assign body).wpIn Fence.wide n P Q a w := by
  refine wpIn_rangeFunc fun fn hfn => ?_
  let rec0 : LoopState → Option Code → Loop := fun st pe => { state := st, pending := pe, fn, tmps := a.tmps, params := ps, assign, body, defers := w.heap.size }
  let W1 : World := (w.alloc (.deferred (some []))).alloc (.loop (rec0 .ready none))
  have mA : Moved bx w W1 := Moved.of_below (((Below.refl w.heap.size w).alloc (Nat.le_refl _) _).alloc (by simp) _)
  have rL : W1.heap[w.heap.size + 1]? = some (.loop (rec0 .ready none)) := by
    have := World.alloc_heap_new (w.alloc (.deferred (some []))) (.loop (rec0 .ready none))
    rwa [World.size_alloc] at this
  have rD : W1.heap[w.heap.size]? = some (.deferred (some [])) := (Below.heap_alloc _ _ _ (by simp)).trans (World.alloc_heap_new w _)
  have away : ∀ {A B : World} {k : Nat} {o : Obj}, Moved bx A B → w.heap.size ≤ k → A.heap[k]? = some o → B.heap[k]? = some o := fun {A B k o} hm hk ho => (hm.block k (Array.getElem?_eq_some_iff.1 ho).1 (by omega)).trans ho
  let J : List α → World → Prop := fun pre W => I pre W ∧ W.heap[w.heap.size + 1]? = some (.loop (rec0 .ready none)) ∧ W.heap[w.heap.size]? = some (.deferred (some []))
  let Jx : List α → World → Prop := fun pre W => Ix pre W ∧ W.heap[w.heap.size + 1]? = some (.loop (rec0 .done (some .ret))) ∧ W.heap[w.heap.size]? = some (.deferred (some []))
  refine ⟨w.heap.size + 1, [{ target := .collected w.heap.size, args := #[] }], W1, { target := .fn (.func gf) lb, args := #[.func (.yield (w.heap.size + 1)) #[] #[]] }, W1, gf,
    #[.func (.yield (w.heap.size + 1)) #[] #[]] ++ lb, W1, run_enterLoop_outer _ _ _ _ _, ?_, ?_, by simp [invoke, go_sem, eg], fun _ => h1, ?_⟩
  · simp only [resolve, hg]
    simp [go_sem]
  · intro f' hf'
    exact trivial
  refine (hseq (w.heap.size + 1) J Jx W1 (hb0.trans ((((Below.refl _ w).alloc (Nat.le_refl _) _).alloc (by simp) _).mono hb0.size)) (fun s A B hs hm => ⟨hIm s A B hs.1 hm, away hm (by omega) hs.2.1, away hm (Nat.le_refl _) hs.2.2⟩) (fun s A B hs hm => ⟨hIxm s A B hs.1 hm, away hm (by omega) hs.2.1, away hm (Nat.le_refl _) hs.2.2⟩) ?_ ⟨hIm _ _ _ h0 mA, rL, rD⟩).mono ?_
  · rintro pre x W hx ⟨hi, hl, hd⟩
    have hlt : w.heap.size + 1 < W.heap.size := (Array.getElem?_eq_some_iff.1 hl).1
    have hy := run_yield (P := P) (args := encs x) hl (hps x)
    refine ⟨fn, _, assign, body, hy, roundIn_of_wpIn hfn (hassign _ x W _ ⟨_, run_beginRound hl rfl, ?_⟩)⟩
    let Wb : World := W.putObj (w.heap.size + 1) (.loop { rec0 .ready none with state := .busy })
    have hl2 : Wb.heap[w.heap.size + 1]? = some (.loop { rec0 .ready none with state := .busy }) := World.putObj_heap_same hlt
    have hd2 : Wb.heap[w.heap.size]? = some (.deferred (some [])) := (World.putObj_heap_other (by omega)).trans hd
    have hkb : Kp W Wb := hKb _ _ _ _ (by omega) hl rfl
    refine wpIn_mono (hbody _ pre x Wb hx (hIb _ _ _ _ _ hi (by omega) hl rfl)) ?_
    rintro e a3 W3 hp
    cases e with
    | normal =>
      obtain ⟨k1, k2, k3⟩ := hp
      have hl3 := k1.same _ _ hl2 rfl
      have hd3 := k1.same _ _ hd2 rfl
      have hr := run_endRound (P := P) none hl3
      exact ⟨_, _, hr, .inl ⟨rfl, ⟨hIb _ _ _ _ _ k3 (by omega) hl3 rfl, World.putObj_heap_same (Array.getElem?_eq_some_iff.1 hl3).1, (World.putObj_heap_other (by omega)).trans hd3⟩, hKt (hKt hkb k2) (hKb _ _ _ _ (by omega) hl3 rfl)⟩⟩
    | ret =>
      obtain ⟨k1, k3⟩ := hp
      have hl3 := k1.same _ _ hl2 rfl
      have hd3 := k1.same _ _ hd2 rfl
      have hr := run_endRound (P := P) (some .ret) hl3
      exact ⟨_, _, hr, .inr ⟨rfl, hIxb _ _ _ _ _ k3 (by omega) hl3 rfl, World.putObj_heap_same (Array.getElem?_eq_some_iff.1 hl3).1, (World.putObj_heap_other (by omega)).trans hd3⟩⟩
    | exit id => exact hp.elim
    | goto t => exact hp.elim
    | panic ch => exact hp.elim
    | outgrown => exact hp.elim
  · rintro e W2 ⟨⟨v, rfl⟩, (⟨hi, hl, hd⟩ | ⟨pre, hi, hl, hd⟩)⟩
    · exact ⟨none, _, run_endLoop (P := P) hl (by simp [rec0]), hdone _ _ (Nat.le_refl _) (hIb _ _ _ _ _ hi (by omega) hl rfl) ((World.putObj_heap_other (by omega)).trans hd)⟩
    · exact ⟨some .ret, _, run_endLoop (P := P) hl (by simp [rec0]), hstop _ pre _ (Nat.le_refl _) (hIxb _ _ _ _ _ hi (by omega) hl rfl) ((World.putObj_heap_other (by omega)).trans hd)⟩
end Go.Proofs.YtdflkikhmngfiaaGreatDoor

