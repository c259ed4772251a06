/- footmanref06.Block: what stands at the beginning, what holds at a round's head. -/
import Derived.Test.YteceinojmdgmeaaGreatC28
import Derived.Test.YteceinojmdgmeaaGreatC31
import Derived.Test.YteceinojmdgmeaaGreatC46
import Derived.Test.YteceinojmdgmeaaGreatC48
import Derived.Test.YteceinojmdgmeaaGreatC49
import Derived.WalkMore
namespace Go.Proofs.YteceinojmdgmeaaGreat
open Go.RowKit
set_option linter.unusedVariables false
set_option linter.unusedSimpArgs false

/-- What stands at the beginning: the state, and the result's row. -/
structure Dk (w W : World) (mx cp : Int) (v : Value) : Prop where
  st : SRow 26 W w.heap.size mx v cp
  rs : W.heap[w.heap.size + 1]? = some (.cells #[.int .i64 0, .slice none 0 0, .int .i64 0] 26 (0, 0))
  below : Below w.heap.size w W
  lt : w.heap.size + 1 < W.heap.size
theorem Dk.step {w W W' : World} {mx cp : Int} {v : Value} (h : Dk w W mx cp v) (hb : Below W.heap.size W W') : Dk w W' mx cp v :=
  ⟨h.st.step hb, (hb.block _ h.lt).trans h.rs, bs_hd h.below hb, Nat.lt_of_lt_of_le h.lt hb.size⟩
theorem Dk.stepB {w W W' : World} {mx cp : Int} {v : Value} {B : Nat} (h : Dk w W mx cp v) (hB : w.heap.size + 1 < B) (hb : Below B W W') : Dk w W' mx cp v :=
  ⟨(hb.block _ (by omega)).trans h.st, (hb.block _ hB).trans h.rs, h.below.trans (hb.mono (by omega)), Nat.lt_of_lt_of_le h.lt hb.size⟩
theorem Dk.new (w : World) (mx cp : Int) (v : Value) : Dk w ((w.alloc (.cells #[.int .i64 mx, v, .int .i64 cp] 26)).alloc (.cells #[.int .i64 0, .slice none 0 0, .int .i64 0] 26)) mx cp v :=
  ⟨two0 _ _ _, two1 _ _ _, bs_hd ((Below.refl _ _).alloc (Nat.le_refl _) _) ((Below.refl _ _).alloc (Nat.le_refl _) _), by simp⟩
/-- What holds at each round's head: the state now, the fields told. -/
structure DkRel (w wi : World) (cp : Int) (mk : Int) (Lk : List Fld) (lo : Option Addr) (ln lc : Nat) (out : List Fld) (vv : Value) (W : World) : Prop where
  row : SRow 26 W wi.heap.size mk (.slice lo ln lc) cp
  len : Lk.length = ln
  cap : ln ≤ lc
  fl : FieldsN W lo Lk
  chk : hchk mk cp Lk = 0
  own : OwnF W (wi.heap.size + 1) vv out
  light : ∀ f ∈ out, lightF f = true
  sep : ∀ a, lo = some a → Lk ≠ [] → a.block ≠ wi.heap.size ∧ ∀ g, vv.ownBlock = some g → a.block ≠ g
  below : Below wi.heap.size wi W
theorem DkRel.step {w wi W W' : World} {cp mk : Int} {Lk out : List Fld} {lo : Option Addr} {ln lc : Nat} {vv : Value} (h : DkRel w wi cp mk Lk lo ln lc out vv W) (hb : Below W.heap.size W W') : DkRel w wi cp mk Lk lo ln lc out vv W' :=
  ⟨h.row.step hb, h.len, h.cap, h.fl.below hb, h.chk, h.own.step hb, h.light, h.sep, h.below.trans (hb.mono h.below.size)⟩
theorem DkRel.gt {w wi W : World} {cp mk : Int} {Lk out : List Fld} {lo : Option Addr} {ln lc : Nat} {vv : Value} (h : DkRel w wi cp mk Lk lo ln lc out vv W) : wi.heap.size < W.heap.size := h.row.lt
/-- The next state is the state now. -/
theorem DkRel.next {w wi W W2 : World} {cp mk mk2 : Int} {Lk Lk2 out : List Fld} {lo lo2 : Option Addr} {ln lc ln2 lc2 : Nat} {vv : Value} (h : DkRel w wi cp mk Lk lo ln lc out vv W) (hb : Below W.heap.size W W2)
    (hlen : Lk2.length = ln2) (hcap : ln2 ≤ lc2) (hfl : FieldsN W2 lo2 Lk2) (hpos : (lo2 = lo ∧ Lk2 = Lk) ∨ ∀ a, lo2 = some a → W.heap.size ≤ a.block) (hck : hchk mk2 cp Lk2 = 0) :
    DkRel w wi cp mk2 Lk2 lo2 ln2 lc2 out vv (W2.setRow wi.heap.size #[.int .i64 mk2, .slice lo2 ln2 lc2, .int .i64 cp]) := by
  have h2 := h.step hb
  have hsep : ∀ a, lo2 = some a → Lk2 ≠ [] → a.block ≠ wi.heap.size ∧ ∀ g, vv.ownBlock = some g → a.block ≠ g := fun a ha hne => by
    rcases hpos with ⟨rfl, rfl⟩ | hp
    · exact h.sep a ha hne
    · have h3 := hp a ha
      have h4 := h.gt
      refine ⟨by omega, fun g hg => ?_⟩
      obtain ⟨_, _, e, _, _, _, hx⟩ := h.own.form
      rw [e] at hg
      cases hoa : (‹Option Addr› : Option Addr) with
      | none => rw [hoa] at hg; cases hg
      | some q =>
        rw [hoa] at hg
        have := hx q hoa
        simp only [Value.ownBlock, Option.some.injEq] at hg
        omega
  exact ⟨setRow_heap _ _ _ _ _ _ h2.row, hlen, hcap, hfl.setRow (fun hne a ha => (hsep a ha hne).1) _, hck, h2.own.setRow (Nat.lt_succ_self _) _, h.light, hsep, below_row h2.below (Nat.le_refl _) _⟩
/-- A field more is told. -/
theorem DkRel.told {w wi W W2 : World} {cp mk : Int} {Lk out : List Fld} {lo : Option Addr} {ln lc : Nat} {vv v2 : Value} {f : Fld} (h : DkRel w wi cp mk Lk lo ln lc out vv W) (hf : lightF f = true)
    (hg : W.grownBy W2 vv.ownBlock) (hown : OwnF W2 (wi.heap.size + 1) v2 (out ++ [f])) (hat : v2.ownBlock = vv.ownBlock ∨ v2.ownBlock = some W.heap.size) : DkRel w wi cp mk Lk lo ln lc (out ++ [f]) v2 W2 := by
  have hge : ∀ g, vv.ownBlock = some g → wi.heap.size + 1 ≤ g := fun g hg => by
    obtain ⟨_, _, e, _, _, _, hx⟩ := h.own.form
    rw [e] at hg
    cases hoa : (‹Option Addr› : Option Addr) with
    | none => rw [hoa] at hg; cases hg
    | some q =>
      rw [hoa] at hg
      have := hx q hoa
      simp only [Value.ownBlock, Option.some.injEq] at hg
      omega
  refine ⟨(hg.block _ h.gt (fun e => by have := hge _ e.symm; omega)).trans h.row, h.len, h.cap, h.fl.grown hg (fun hne a ha e => (h.sep a ha hne).2 _ e.symm rfl), h.chk, hown, fun g hx => ?_, fun a ha hne => ⟨(h.sep a ha hne).1, fun g hv => ?_⟩, h.below.grown hg h.below.size (fun k hk => by have := hge k hk; omega)⟩
  · rcases List.mem_append.1 hx with hx | hx
    · exact h.light g hx
    · obtain rfl := List.mem_singleton.1 hx; exact hf
  · rcases hat with e | e
    · exact (h.sep a ha hne).2 g (e ▸ hv)
    · have e2 := e.symm.trans hv
      injection e2 with e2
      cases hl : Lk with
      | nil => exact absurd hl hne
      | cons f0 t =>
        obtain ⟨b, o, hb, h0, _⟩ := h.fl 0 f0 (by rw [hl]; rfl)
        have := World.block_lt_of_cell? _ _ h0
        rw [ha] at hb
        injection hb with hb
        subst hb
        show b ≠ g
        have this : b < W.heap.size := this
        omega
/-- The state is told anew: the list lies apart from what is told. -/
theorem DkRel.turn {w wi W : World} {cp mk mk2 : Int} {Lk Lk2 out : List Fld} {lo lo2 : Option Addr} {ln lc ln2 lc2 : Nat} {vv : Value} (h : DkRel w wi cp mk Lk lo ln lc out vv W)
    (hlen : Lk2.length = ln2) (hcap : ln2 ≤ lc2) (hfl : FieldsN W lo2 Lk2) (hsep : ∀ a, lo2 = some a → Lk2 ≠ [] → a.block ≠ wi.heap.size ∧ ∀ g, vv.ownBlock = some g → a.block ≠ g) (hck : hchk mk2 cp Lk2 = 0) :
    DkRel w wi cp mk2 Lk2 lo2 ln2 lc2 out vv (W.setRow wi.heap.size #[.int .i64 mk2, .slice lo2 ln2 lc2, .int .i64 cp]) :=
  ⟨setRow_heap _ _ _ _ _ _ h.row, hlen, hcap, hfl.setRow (fun hne a ha => (hsep a ha hne).1) _, hck, h.own.setRow (Nat.lt_succ_self _) _, h.light, hsep, below_row h.below (Nat.le_refl _) _⟩
/-- What is told lies below the world now. -/
theorem DkRel.vlt {w wi W : World} {cp mk : Int} {Lk out : List Fld} {lo : Option Addr} {ln lc : Nat} {vv : Value} (h : DkRel w wi cp mk Lk lo ln lc out vv W) : ∀ g, vv.ownBlock = some g → g < W.heap.size := fun g hg => by
  obtain ⟨_, h2⟩ := h.own
  rcases h2 with h2 | ⟨q, cap, cur, e, hq, hh, r⟩
  · have e := h2.1
    rw [e] at hg
    cases hg
  · rw [e] at hg
    simp only [Value.ownBlock, Option.some.injEq] at hg
    subst hg
    exact (Array.getElem?_eq_some_iff.1 hh).1
/-- A list that a step tells lies apart from what is told, and from the state's row. -/
theorem DkRel.apart {w wi W : World} {cp mk : Int} {Lk Lk2 out : List Fld} {lo lo2 : Option Addr} {ln lc : Nat} {vv : Value} (h : DkRel w wi cp mk Lk lo ln lc out vv W)
    (hpos : (lo2 = lo ∧ Lk2 = Lk) ∨ ∀ a, lo2 = some a → W.heap.size ≤ a.block) : ∀ a, lo2 = some a → Lk2 ≠ [] → a.block ≠ wi.heap.size ∧ ∀ g, vv.ownBlock = some g → a.block ≠ g := fun a ha hne => by
  rcases hpos with ⟨rfl, rfl⟩ | hp
  · exact h.sep a ha hne
  · have h3 := hp a ha
    have h4 := h.gt
    exact ⟨by omega, fun g hg => by have := h.vlt g hg; omega⟩
theorem fields_lt {W : World} {oa : Option Addr} {L : List Fld} (h : FieldsN W oa L) (a : Addr) (ha : oa = some a) (hne : L ≠ []) : a.block < W.heap.size := by
  cases L with
  | nil => exact absurd rfl hne
  | cons f t =>
    obtain ⟨b, o, e, c, _⟩ := h 0 f rfl
    rw [ha] at e
    injection e with e
    subst e
    exact World.block_lt_of_cell? _ _ c
/-- Whether an item that is no size stands just ahead. -/
def bgF (its : List Itm) : Nat → Bool
  | 0 => false
  | k + 1 => match its[k]? with | some x => !decide (x.kind = 4) | none => false
theorem hSt_told {mx cp : Int} {L : List Fld} {x : Itm} (h : (hSt mx cp L x).2.2.2.2 = 0) : (hSt mx cp L x).2.2.2.1 = !decide (x.kind = 4) := by
  unfold hSt at h ⊢
  by_cases c4 : x.kind = 4
  · rw [if_pos c4, decide_eq_true c4]
    split <;> rfl
  · rw [if_neg c4] at h ⊢
    rw [decide_eq_false c4]
    by_cases cn : (hNamed L x).2 = false
    · rw [if_pos cn] at h; cases h
    · rw [if_neg cn]
      split
      · rfl
      · split <;> rfl
/-- The flag goes on. -/
theorem bgF_next {its : List Itm} {k : Nat} {x : Itm} (hx : its[k]? = some x) {mx cp : Int} {L : List Fld} {bg : Bool} (hb : bg = bgF its k) (ho : ¬(x.kind = 4 ∧ bg = true)) (h : (hSt mx cp L x).2.2.2.2 = 0) :
    (if (hSt mx cp L x).2.2.2.1 = true then true else bg) = bgF its (k + 1) := by
  rw [hSt_told h]
  show _ = (match its[k]? with | some x => !decide (x.kind = 4) | none => false)
  rw [hx]
  by_cases c : x.kind = 4
  · cases bg
    · simp [c]
    · exact absurd ⟨c, rfl⟩ ho
  · simp [c]
/-- A list does not lie where a variable was made. -/
def SepP (ob : Option Addr) (R : List Fld) (f : Option Nat) : Prop := ∀ g, f = some g → ∀ a, ob = some a → R ≠ [] → a.block ≠ g
theorem SepP.mk {oa ob : Option Addr} {R L : List Fld} {f : Option Nat} {z : Obj} {W : World} {B : Nat} (hz : ZO B z f W) (hp : (ob = oa ∧ R = L) ∨ ∀ a, ob = some a → W.heap.size ≤ a.block) (ho : ∀ a, oa = some a → L ≠ [] → a.block < B) : SepP ob R f := fun g hg a ha hne => by
  have h1 := hz g hg
  have h2 : g < W.heap.size := (Array.getElem?_eq_some_iff.1 h1.1).1
  rcases hp with ⟨rfl, rfl⟩ | hp
  · have := ho a ha hne; omega
  · have := hp a ha; omega
theorem SepP.made {ob : Option Addr} {R : List Fld} {W : World} (h : FieldsN W ob R) : SepP ob R (some W.heap.size) := fun g hg a ha hne => by
  injection hg with hg
  subst hg
  exact Nat.ne_of_lt (fields_lt h a ha hne)
theorem pos_mono {oa ob : Option Addr} {R L : List Fld} {m n : Nat} (h : (ob = oa ∧ R = L) ∨ ∀ a, ob = some a → n ≤ a.block) (hm : m ≤ n) : (ob = oa ∧ R = L) ∨ ∀ a, ob = some a → m ≤ a.block := by
  rcases h with h | h
  · exact .inl h
  · exact .inr fun a ha => Nat.le_trans hm (h a ha)
end Go.Proofs.YteceinojmdgmeaaGreat

