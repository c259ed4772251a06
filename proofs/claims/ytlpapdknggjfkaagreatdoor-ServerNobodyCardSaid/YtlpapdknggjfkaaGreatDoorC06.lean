/- The machine's values, blocks and states; what a state tells of a world. -/
import Derived.Test.YtlpapdknggjfkaaGreatDoorC05
import Derived.Below
namespace Go.Proofs.YtlpapdknggjfkaaGreatDoor
open Go.RowKit
set_option linter.unusedVariables false
set_option linter.unusedSimpArgs false
set_option linter.unusedSectionVars false

/-- Values that the machine does not know: what is known of them; and of the world that it began in, from a block on. -/
class Sy where
  pr : Nat → Value → Prop
  one : ∀ i v, pr i v → (∀ a, v ≠ .agg a) ∧ (∀ a, v ≠ .tuple a)
  num : ∀ i, i < 1000 → ∃ k n, ∀ v, pr i v → v = .int k n
  inv : Nat → World → Prop
  keep : ∀ {B : Nat} {w w' : World}, inv B w → Below B w w' → inv B w'
variable [Sy]

/-- A value; blocks go by names. -/
inductive AV where
  | bool (b : Bool)
  | int (k : IntKind) (n : Int)
  | str (l : List Nat)
  | nilp
  | ptr (n o : Nat)
  | nils
  | sl (n o len cap : Nat)
  | os (n z e len : Nat)
  | emp
  | nilm
  | map (n : Nat)
  | nilf
  | func (fn : Fn) (first caps : List AV)
  | nili
  | iface (t : TypeId) (v : AV)
  | agg (l : List AV)
  | tup (l : List AV)
  | un (i : Nat)
instance : Inhabited AV := ⟨.nilp⟩
/-- Where names lie: the block, where in it, and how many elements may stand there. -/
abbrev Pm := Nat → Option (Nat × Nat × Nat)
def Pm.le (ρ ρ' : Pm) : Prop := ∀ n p, ρ n = some p → ρ' n = some p
theorem Pm.le.refl (ρ : Pm) : ρ.le ρ := fun _ _ h => h
theorem Pm.le.trans {a b c : Pm} (h : a.le b) (k : b.le c) : a.le c := fun n p hn => k n p (h n p hn)
def bytesOf (l : List Nat) : ByteArray := ⟨(l.map UInt8.ofNat).toArray⟩
mutual
def AV.rp (ρ : Pm) : AV → Value → Prop
  | .bool b, v => v = .bool b
  | .int k n, v => v = .int k n
  | .str l, v => (∀ b ∈ l, b < 256) ∧ v = .string (bytesOf l)
  | .nilp, v => v = .pointer none
  | .ptr n o, v => ∃ b f c, ρ n = some (b, f, c) ∧ v = .pointer (some ⟨b, f + o, none⟩)
  | .nils, v => v = .slice none 0 0
  | .sl n o len cap, v => ∃ b f c, ρ n = some (b, f, c) ∧ v = .slice (some ⟨b, f + o, none⟩) len cap
  | .os n z e len, v => ∃ b f c, ρ n = some (b, f, c) ∧ e + len ≤ c ∧ v = .slice (some ⟨b, f + e * z, none⟩) len (c - e)
  | .emp, v => ∃ a c, v = .slice (some a) 0 c
  | .nilm, v => v = .map none
  | .map n, v => ∃ b f c, ρ n = some (b, f, c) ∧ v = .map (some b)
  | .nilf, v => v = .nilFunc
  | .func fn f c, v => ∃ f' c', v = .func fn f' c' ∧ rps ρ f f'.toList ∧ rps ρ c c'.toList
  | .nili, v => v = .nilIface
  | .iface t x, v => ∃ y, v = .iface t y ∧ x.rp ρ y
  | .agg l, v => ∃ a, v = .agg a ∧ rps ρ l a.toList
  | .tup l, v => ∃ a, v = .tuple a ∧ rps ρ l a.toList
  | .un i, v => Sy.pr i v
def AV.rps (ρ : Pm) : List AV → List Value → Prop
  | [], m => m = []
  | x :: l, m => ∃ y m', m = y :: m' ∧ x.rp ρ y ∧ rps ρ l m'
end
mutual
theorem AV.rp.mono {ρ ρ' : Pm} (h : ρ.le ρ') : ∀ {x : AV} {v : Value}, x.rp ρ v → x.rp ρ' v
  | .bool b, v, hx => by simpa only [AV.rp] using hx
  | .int k n, v, hx => by simpa only [AV.rp] using hx
  | .str l, v, hx => by simpa only [AV.rp] using hx
  | .nilp, v, hx => by simpa only [AV.rp] using hx
  | .ptr n o, v, hx => by
    simp only [AV.rp] at hx ⊢
    obtain ⟨b, f, c, h1, h2⟩ := hx
    exact ⟨b, f, c, h _ _ h1, h2⟩
  | .nils, v, hx => by simpa only [AV.rp] using hx
  | .sl n o len cap, v, hx => by
    simp only [AV.rp] at hx ⊢
    obtain ⟨b, f, c, h1, h2⟩ := hx
    exact ⟨b, f, c, h _ _ h1, h2⟩
  | .os n z e len, v, hx => by
    simp only [AV.rp] at hx ⊢
    obtain ⟨b, f, c, h1, h2, h3⟩ := hx
    exact ⟨b, f, c, h _ _ h1, h2, h3⟩
  | .emp, v, hx => by simpa only [AV.rp] using hx
  | .nilm, v, hx => by simpa only [AV.rp] using hx
  | .map n, v, hx => by
    simp only [AV.rp] at hx ⊢
    obtain ⟨b, f, c, h1, h2⟩ := hx
    exact ⟨b, f, c, h _ _ h1, h2⟩
  | .nilf, v, hx => by simpa only [AV.rp] using hx
  | .func fn f c, v, hx => by
    simp only [AV.rp] at hx ⊢
    obtain ⟨f', c', e, h1, h2⟩ := hx
    exact ⟨f', c', e, AV.rps.mono h h1, AV.rps.mono h h2⟩
  | .nili, v, hx => by simpa only [AV.rp] using hx
  | .iface t x, v, hx => by
    simp only [AV.rp] at hx ⊢
    obtain ⟨y, e, h1⟩ := hx
    exact ⟨y, e, AV.rp.mono h h1⟩
  | .agg l, v, hx => by
    simp only [AV.rp] at hx ⊢
    obtain ⟨a, e, h1⟩ := hx
    exact ⟨a, e, AV.rps.mono h h1⟩
  | .tup l, v, hx => by
    simp only [AV.rp] at hx ⊢
    obtain ⟨a, e, h1⟩ := hx
    exact ⟨a, e, AV.rps.mono h h1⟩
  | .un i, v, hx => by simpa only [AV.rp] using hx
theorem AV.rps.mono {ρ ρ' : Pm} (h : ρ.le ρ') : ∀ {l : List AV} {m : List Value}, AV.rps ρ l m → AV.rps ρ' l m
  | [], m, hx => by simpa only [AV.rps] using hx
  | x :: l, m, hx => by
    simp only [AV.rps] at hx ⊢
    obtain ⟨y, m', e, h1, h2⟩ := hx
    exact ⟨y, m', e, AV.rp.mono h h1, AV.rps.mono h h2⟩
end
theorem rps_nil {ρ : Pm} {m : List Value} : AV.rps ρ [] m ↔ m = [] := by simp only [AV.rps]
theorem rps_cons {ρ : Pm} {x : AV} {l : List AV} {m : List Value} : AV.rps ρ (x :: l) m ↔ ∃ y m', m = y :: m' ∧ x.rp ρ y ∧ AV.rps ρ l m' := by simp only [AV.rps]
theorem rps_at {ρ : Pm} : ∀ {l : List AV} {m : List Value}, AV.rps ρ l m ↔ l.length = m.length ∧ ∀ (i : Nat) (x : AV), l[i]? = some x → ∃ v, m[i]? = some v ∧ x.rp ρ v
  | [], m => by
    rw [rps_nil]
    constructor
    · rintro rfl; exact ⟨rfl, fun i x h => by simp at h⟩
    · rintro ⟨h, _⟩; exact List.eq_nil_of_length_eq_zero h.symm
  | x :: l, m => by
    rw [rps_cons]
    constructor
    · rintro ⟨y, m', rfl, h1, h2⟩
      obtain ⟨h3, h4⟩ := rps_at.1 h2
      refine ⟨by simp [h3], fun i z hz => ?_⟩
      cases i with
      | zero => simp at hz; subst hz; exact ⟨y, rfl, h1⟩
      | succ i => simp at hz; simpa using h4 i z hz
    · rintro ⟨h1, h2⟩
      cases m with
      | nil => simp at h1
      | cons y m' =>
        obtain ⟨v, hv, hr⟩ := h2 0 x rfl
        simp at hv
        subst hv
        refine ⟨y, m', rfl, hr, rps_at.2 ⟨by simpa using h1, fun i z hz => ?_⟩⟩
        have := h2 (i + 1) z (by simpa using hz)
        simpa using this
theorem rps_append {ρ : Pm} {a b : List AV} {m n : List Value} (h : AV.rps ρ a m) (k : AV.rps ρ b n) : AV.rps ρ (a ++ b) (m ++ n) := by
  induction a generalizing m with
  | nil => rw [rps_nil] at h; subst h; simpa using k
  | cons x a ih =>
    rw [rps_cons] at h
    obtain ⟨y, m', rfl, h1, h2⟩ := h
    rw [List.cons_append, rps_cons]
    exact ⟨y, m' ++ n, rfl, h1, ih h2⟩
theorem rps_length {ρ : Pm} {l : List AV} {m : List Value} (h : AV.rps ρ l m) : l.length = m.length := (rps_at.1 h).1
/-- A value of one cell. -/
def AV.one : AV → Bool
  | .agg _ => false
  | .tup _ => false
  | _ => true
def AV.cells : AV → List AV
  | .agg l => l
  | x => [x]
theorem rp_one {ρ : Pm} {x : AV} {v : Value} (h : x.rp ρ v) (ho : x.one = true) : (∀ a, v ≠ .agg a) ∧ (∀ a, v ≠ .tuple a) := by
  refine ⟨fun a e => ?_, fun a e => ?_⟩
  all_goals
    subst e
    cases x
    case agg l => exact absurd ho (by simp [AV.one])
    case tup l => exact absurd ho (by simp [AV.one])
    case func fn f c => simp only [AV.rp] at h; obtain ⟨_, _, h, _⟩ := h; exact Value.noConfusion h
    case iface t x => simp only [AV.rp] at h; obtain ⟨_, h, _⟩ := h; exact Value.noConfusion h
    case un i =>
      simp only [AV.rp] at h
      first
        | exact (Sy.one _ _ h).1 _ rfl
        | exact (Sy.one _ _ h).2 _ rfl
    all_goals
      simp only [AV.rp] at h
      first
        | exact Value.noConfusion h
        | (obtain ⟨_, h⟩ := h; exact Value.noConfusion h)
        | (obtain ⟨_, _, h⟩ := h; exact Value.noConfusion h)
        | (obtain ⟨_, _, _, _, h⟩ := h; exact Value.noConfusion h)
        | (obtain ⟨_, _, _, _, _, h⟩ := h; exact Value.noConfusion h)
theorem rp_cells {ρ : Pm} {x : AV} {v : Value} (h : x.rp ρ v) (ht : ∀ l, x ≠ .tup l) : AV.rps ρ x.cells v.cells.toList := by
  cases x with
  | agg l =>
    simp only [AV.rp] at h
    obtain ⟨a, rfl, h⟩ := h
    exact h
  | tup l => exact absurd rfl (ht l)
  | _ =>
    have hc := rp_one h rfl
    have hv : v.cells = #[v] := by
      cases v with
      | agg a => exact absurd rfl (hc.1 a)
      | _ => rfl
    rw [hv]
    exact rps_cons.2 ⟨v, [], rfl, h, rps_nil.2 rfl⟩
/-- A block. -/
inductive Blk where
  | row (el : TypeId) (z sz : Nat) (cs : Tr AV) (opn : Bool)
  | mp (es : List (AV × AV))
  | dead
/-- What a block is, but for its cells. -/
inductive Mta where
  | none
  | row (el : TypeId) (z sz : Nat) (opn : Bool)
  | mp (es : List (AV × AV))
  | dead
def Blk.mta : Blk → Mta
  | .row el z sz _ o => .row el z sz o
  | .mp es => .mp es
  | .dead => .dead
def metaOf : Option Blk → Mta
  | some b => b.mta
  | none => .none
noncomputable def cellOf : Option Blk → Nat → Option AV
  | some (.row _ _ _ cs _), i => cs.get i
  | _, _ => none
abbrev Heap := Tr Blk
/-- What stands at a place: a block's kind, or a cell. -/
noncomputable def mt (h : Heap) (n : Nat) : Mta := metaOf (h.get n)
noncomputable def cl (h : Heap) (n i : Nat) : Option AV := cellOf (h.get n) i
/-- No cell of the row is shared with a string. -/
def okfz (fz : Nat × Nat) (n : Nat) : Prop := fz.1 = fz.2 ∨ n ≤ fz.1
/-- A block of the world is as it is told. -/
def repB (ρ : Pm) (f c : Nat) (m : Mta) (cell : Nat → Option AV) (o : Obj) : Prop :=
  match m with
  | .row el z sz opn => ∃ arr fz, o = .cells arr el fz ∧ okfz fz arr.size ∧ (∀ (i : Nat) (x : AV), cell i = some x → ∃ v, arr[f + i]? = some v ∧ x.rp ρ v) ∧
      (opn = true → arr.size = f + c * z ∧ sz ≤ c * z)
  | .mp es => ∃ ms clock, o = .map ms clock ∧ es.length = ms.size ∧ ∀ (i : Nat) (p : AV × AV), es[i]? = some p → ∃ e, ms[i]? = some e ∧ p.1.rp ρ e.key ∧ p.2.rp ρ e.val
  | _ => False
def Mta.live : Mta → Bool
  | .row .. => true
  | .mp _ => true
  | _ => false
/-- A state tells of a world: from block B on. -/
structure Rep (B : Nat) (ρ : Pm) (h : Heap) (w : World) : Prop where
  size : B ≤ w.heap.size
  live : ∀ n, (mt h n).live = true → ∃ b f c o, ρ n = some (b, f, c) ∧ B ≤ b ∧ w.heap[b]? = some o ∧ repB ρ f c (mt h n) (cl h n) o
  free : ∀ n, mt h n = .none → ρ n = none
  apart : ∀ n m b f c f' c', (mt h n).live = true → (mt h m).live = true → ρ n = some (b, f, c) → ρ m = some (b, f', c') → n = m
  inv : Sy.inv B w
theorem repB_mono {ρ ρ' : Pm} (hr : ρ.le ρ') {f c : Nat} {m : Mta} {cell : Nat → Option AV} {o : Obj} (h : repB ρ f c m cell o) : repB ρ' f c m cell o := by
  cases m with
  | row el z sz opn =>
    obtain ⟨arr, fz, h1, h0, h2, h3⟩ := h
    exact ⟨arr, fz, h1, h0, fun i x hx => let ⟨v, h4, h5⟩ := h2 i x hx; ⟨v, h4, h5.mono hr⟩, h3⟩
  | mp es =>
    obtain ⟨ms, clock, h1, h2, h3⟩ := h
    exact ⟨ms, clock, h1, h2, fun i p hp => let ⟨e, h4, h5, h6⟩ := h3 i p hp; ⟨e, h4, h5.mono hr, h6.mono hr⟩⟩
  | none => exact h
  | dead => exact h
/-- It tells by what stands at its places alone. -/
theorem Rep.same {B : Nat} {ρ : Pm} {h h' : Heap} {w : World} (hr : Rep B ρ h w) (hm : ∀ n, mt h' n = mt h n) (hc : ∀ n i, cl h' n i = cl h n i) : Rep B ρ h' w := by
  refine ⟨hr.size, fun n hn => ?_, fun n hn => hr.free n ((hm n).symm.trans hn), fun n m b f c f' c' h1 h2 => hr.apart n m b f c f' c' (by rw [← hm]; exact h1) (by rw [← hm]; exact h2), hr.inv⟩
  rw [hm] at hn
  obtain ⟨b, f, c, o, h1, h2, h3, h4⟩ := hr.live n hn
  refine ⟨b, f, c, o, h1, h2, h3, ?_⟩
  have : cl h' n = cl h n := funext (hc n)
  rw [hm, this]
  exact h4
end Go.Proofs.YtlpapdknggjfkaaGreatDoor

