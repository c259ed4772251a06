/- The machine's comparing, in the program. -/
import Derived.Test.YtdflkikhmngfiaaGreatDoorZ08
import Derived.Laws.StructEq
import Derived.ChangeKeysEq
namespace Go.Proofs.YtdflkikhmngfiaaGreatDoor
open Go.RowKit
set_option linter.unusedVariables false
set_option linter.unusedSimpArgs false
set_option linter.unusedSectionVars false
variable [Sy] [Dc] [DcOK]

section
variable {P : Program} {ρ : Pm} {w : World}
theorem str_beq {a b : List Nat} (ha : ∀ x ∈ a, x < 256) (hb : ∀ x ∈ b, x < 256) : (bytesOf a == bytesOf b) = eqL a b := by
  rw [beq_toListBytes, bytesOf_tl, bytesOf_tl, map_ofNat_beq ha hb, eqL_eq]
theorem eqX_eq : ∀ {a b : Xp}, eqX a b = true → a = b := by
  intro a
  induction a with
  | var i => intro b h; cases b <;> first | (have h : Nat.beq i _ = true := h; rw [Nat.beq_eq] at h; rw [h]) | cases h
  | int n => intro b h; cases b <;> first | (have h : eqI n _ = true := h; rw [eqI_eq] at h; rw [eq_of_beq h]) | cases h
  | bool c => intro b h; cases b <;> first | (have h : (c == _) = true := h; rw [eq_of_beq h]) | cases h
  | str l => intro b h; cases b <;> first | (have h : eqL l _ = true := h; rw [eqL_eq] at h; rw [eq_of_beq h]) | cases h
  | bin op k a b ia ib => intro b h; cases b <;> first | (have h : (decide (op = _) && (decide (k = _) && (eqX a _ && eqX b _))) = true := h; simp only [Bool.and_eq_true, decide_eq_true_eq] at h; obtain ⟨rfl, rfl, h1, h2⟩ := h; rw [ia h1, ib h2]) | cases h
  | wrap k a ia => intro b h; cases b <;> first | (have h : (decide (k = _) && eqX a _) = true := h; simp only [Bool.and_eq_true, decide_eq_true_eq] at h; obtain ⟨rfl, h1⟩ := h; rw [ia h1]) | cases h
  | cmpi op a b ia ib => intro b h; cases b <;> first | (have h : (decide (op = _) && (eqX a _ && eqX b _)) = true := h; simp only [Bool.and_eq_true, decide_eq_true_eq] at h; obtain ⟨rfl, h1, h2⟩ := h; rw [ia h1, ib h2]) | cases h
  | eqs a b ia ib => intro b h; cases b <;> first | (have h : (eqX a _ && eqX b _) = true := h; simp only [Bool.and_eq_true] at h; rw [ia h.1, ib h.2]) | cases h
  | eqb a b ia ib => intro b h; cases b <;> first | (have h : (eqX a _ && eqX b _) = true := h; simp only [Bool.and_eq_true] at h; rw [ia h.1, ib h.2]) | cases h
  | not a ia => intro b h; cases b <;> first | (have h : eqX a _ = true := h; rw [ia h]) | cases h
  | cat a b ia ib => intro b h; cases b <;> first | (have h : (eqX a _ && eqX b _) = true := h; simp only [Bool.and_eq_true] at h; rw [ia h.1, ib h.2]) | cases h
  | lens a ia => intro b h; cases b <;> first | (have h : eqX a _ = true := h; rw [ia h]) | cases h
  | lenl a ia => intro b h; cases b <;> first | (have h : eqX a _ = true := h; rw [ia h]) | cases h
  | «at» a b ia ib => intro b h; cases b <;> first | (have h : (eqX a _ && eqX b _) = true := h; simp only [Bool.and_eq_true] at h; rw [ia h.1, ib h.2]) | cases h
  | subs a b c ia ib ic => intro b h; cases b <;> first | (have h : (eqX a _ && (eqX b _ && eqX c _)) = true := h; simp only [Bool.and_eq_true] at h; rw [ia h.1, ib h.2.1, ic h.2.2]) | cases h
  | subl a b c ia ib ic => intro b h; cases b <;> first | (have h : (eqX a _ && (eqX b _ && eqX c _)) = true := h; simp only [Bool.and_eq_true] at h; rw [ia h.1, ib h.2.1, ic h.2.2]) | cases h
  | inb a b ia ib => intro b h; cases b <;> first | (have h : (eqX a _ && eqX b _) = true := h; simp only [Bool.and_eq_true] at h; rw [ia h.1, ib h.2]) | cases h
  | rng a b c ia ib ic => intro b h; cases b <;> first | (have h : (eqX a _ && (eqX b _ && eqX c _)) = true := h; simp only [Bool.and_eq_true] at h; rw [ia h.1, ib h.2.1, ic h.2.2]) | cases h
  | get a b z j ia ib => intro b h; cases b <;> first | (have h : (Nat.beq z _ && (Nat.beq j _ && (eqX a _ && eqX b _))) = true := h; simp only [Bool.and_eq_true, Nat.beq_eq] at h; obtain ⟨rfl, rfl, h1, h2⟩ := h; rw [ia h1, ib h2]) | cases h
  | cell a j ia => intro b h; cases b <;> first | (have h : (Nat.beq j _ && eqX a _) = true := h; simp only [Bool.and_eq_true, Nat.beq_eq] at h; obtain ⟨rfl, h1⟩ := h; rw [ia h1]) | cases h
  | app f a ia => intro b h; cases b <;> first | (have h : (Nat.beq f _ && eqX a _) = true := h; simp only [Bool.and_eq_true, Nat.beq_eq] at h; obtain ⟨rfl, h1⟩ := h; rw [ia h1]) | cases h
  | nil => intro b h; cases b <;> first | rfl | cases h
  | cons a b ia ib => intro b h; cases b <;> first | (have h : (eqX a _ && eqX b _) = true := h; simp only [Bool.and_eq_true] at h; rw [ia h.1, ib h.2]) | cases h
  | lnil => intro b h; cases b <;> first | rfl | cases h
  | snoc a b ia ib => intro b h; cases b <;> first | (have h : (eqX a _ && eqX b _) = true := h; simp only [Bool.and_eq_true] at h; rw [ia h.1, ib h.2]) | cases h
  | catl a b ia ib => intro b h; cases b <;> first | (have h : (eqX a _ && eqX b _) = true := h; simp only [Bool.and_eq_true] at h; rw [ia h.1, ib h.2]) | cases h
  | ofB a ia => intro b h; cases b <;> first | (have h : eqX a _ = true := h; rw [ia h]) | cases h
  | toB a ia => intro b h; cases b <;> first | (have h : eqX a _ = true := h; rw [ia h]) | cases h
theorem xi_rp {x : AV} {p : IntKind × Xp} (e : xi x = some p) {v : Value} (h : x.rp ρ v) : v = .int p.1 p.2.den.i := by
  unfold xi at e
  split at e
  · injection e with e; subst e; simp only [AV.rp] at h; rw [h]; rfl
  · injection e with e; subst e; simp only [AV.rp, Sh.rp] at h; exact h
  · cases e
theorem xs_rp {x : AV} {p : Xp} (e : xs x = some p) {v : Value} (h : x.rp ρ v) : v = .string p.den.s := by
  unfold xs at e
  split at e
  · injection e with e; subst e; simp only [AV.rp] at h; rw [h.2]; rfl
  · injection e with e; subst e; simp only [AV.rp, Sh.rp] at h; exact h
  · cases e
theorem xb_rp {x : AV} {p : Xp} (e : xb x = some p) {v : Value} (h : x.rp ρ v) : v = .bool p.den.b := by
  unfold xb at e
  split at e
  · injection e with e; subst e; simp only [AV.rp] at h; rw [h]; rfl
  · injection e with e; subst e; simp only [AV.rp, Sh.rp] at h; exact h
  · cases e
theorem str_dec (a b : ByteArray) : (a.toList == b.toList) = decide (a = b) := by
  by_cases h : a = b
  · simp [h]
  · have : a.toList ≠ b.toList := fun e => h (Go.WideShapes.bytes_inj (by rw [← ByteArray.toList_eq, ← ByteArray.toList_eq, e]))
    simp [h, this]
/-- Whether two are one, as it is decided: so it is. -/
theorem dec_eq {p q : Xp} {c : Xp} {r : Bool} {f : Xp → Xp → Bool} (hf : c.den = .bool (f p q)) (hs : p = q → f p q = true) (e : (bif eqX p q then some true else Dc.dec c) = some r) : f p q = r := by
  cases h : eqX p q with
  | true =>
    rw [h] at e
    injection e with e
    rw [← e]
    exact hs (eqX_eq h)
  | false =>
    rw [h] at e
    have := DcOK.ok c r e
    rw [hf] at this
    injection this
theorem eqD_snd {d : TypeDesc} {t : TypeId} {x y : AV} {r : Bool} {vx vy : Value} (hu : P.underlying t = some d) (e : eqD d x y = some r) (hx : x.rp ρ vx) (hy : y.rp ρ vy) (n : Nat) : (Op.equalIn (n + 1) t vx vy).run P w = .ok r w := by
  unfold eqD at e
  split at e
  · rename_i k0
    obtain ⟨p, h1, e⟩ := bind_some' e
    obtain ⟨q, h2, e⟩ := bind_some' e
    obtain ⟨h3, e⟩ := bif_some e
    have h3 : p.1 = q.1 := of_decide_eq_true h3
    rw [xi_rp h1 hx, xi_rp h2 hy, h3, ← dec_eq (f := fun p q => decide (p.den.i = q.den.i)) rfl (fun h => by rw [h]; simp) e]
    have := run_equalIn_int (P := P) w n t q.1 k0 p.2.den.i q.2.den.i hu
    rw [this]
    congr 1
  · obtain ⟨p, h1, e⟩ := bind_some' e
    obtain ⟨q, h2, e⟩ := bind_some' e
    rw [xs_rp h1 hx, xs_rp h2 hy, ← dec_eq (f := fun p q => decide (p.den.s = q.den.s)) rfl (fun h => by rw [h]; simp) e, run_equalIn_string w n t _ _ hu, str_dec]
  · obtain ⟨p, h1, e⟩ := bind_some' e
    obtain ⟨q, h2, e⟩ := bind_some' e
    rw [xb_rp h1 hx, xb_rp h2 hy, ← dec_eq (f := fun p q => p.den.b == q.den.b) rfl (fun h => by rw [h]; simp) e]
    exact run_equalIn_bool' w n t _ _ hu
  · cases e
set_option maxHeartbeats 2000000 in
theorem eqC_snd {d : TypeDesc} {t : TypeId} {x y : AV} {r : Bool} {vx vy : Value} (hu : P.underlying t = some d) (e : eqC d x y = some r) (hx : x.rp ρ vx) (hy : y.rp ρ vy) (n : Nat) : (Op.equalIn (n + 1) t vx vy).run P w = .ok r w := by
  unfold eqC at e
  split at e
  · rename_i k0 k a k' b
    obtain ⟨h1, e5⟩ := bif_some e
    have hk : k = k' := of_decide_eq_true h1
    subst hk
    injection e5 with e5
    simp only [AV.rp] at hx hy
    subst hx hy
    rw [← e5, eqI_eq]
    exact run_equalIn_int w n t k k0 a b hu
  · injection e with e
    simp only [AV.rp] at hx hy
    subst hx hy e
    exact run_equalIn_bool' w n t _ _ hu
  · injection e with e
    simp only [AV.rp] at hx hy
    obtain ⟨h1, rfl⟩ := hx
    obtain ⟨h2, rfl⟩ := hy
    rw [run_equalIn_string w n t _ _ hu, ← beq_toListBytes, str_beq h1 h2, e]
  · injection e with e; subst e; simp only [AV.rp] at hx hy; subst hx; subst hy; simp [Op.equalIn, run_underlying hu]
  · injection e with e; subst e; simp only [AV.rp] at hx hy; obtain ⟨_, _, _, _, rfl⟩ := hy; subst hx; simp [Op.equalIn, run_underlying hu]
  · injection e with e; subst e; simp only [AV.rp] at hx hy; obtain ⟨_, _, _, _, rfl⟩ := hx; subst hy; simp [Op.equalIn, run_underlying hu]
  · injection e with e; subst e; simp only [AV.rp] at hx hy; subst hx; subst hy; simp [Op.equalIn, run_underlying hu]
  · injection e with e; subst e; simp only [AV.rp] at hx hy; obtain ⟨_, _, _, _, rfl⟩ := hy; subst hx; simp [Op.equalIn, run_underlying hu]
  · injection e with e; subst e; simp only [AV.rp] at hx hy; obtain ⟨_, _, _, _, _, rfl⟩ := hy; subst hx; simp [Op.equalIn, run_underlying hu]
  · injection e with e; subst e; simp only [AV.rp] at hx hy; obtain ⟨_, _, _, _, rfl⟩ := hx; subst hy; simp [Op.equalIn, run_underlying hu]
  · injection e with e; subst e; simp only [AV.rp] at hx hy; obtain ⟨_, _, _, _, _, rfl⟩ := hx; subst hy; simp [Op.equalIn, run_underlying hu]
  · injection e with e; subst e; simp only [AV.rp] at hx hy; obtain ⟨_, _, rfl⟩ := hy; subst hx; simp [Op.equalIn, run_underlying hu]
  · injection e with e; subst e; simp only [AV.rp] at hx hy; obtain ⟨_, _, rfl⟩ := hx; subst hy; simp [Op.equalIn, run_underlying hu]
  · injection e with e; subst e; have hx9 := hx; simp only [AV.rp] at hx; obtain ⟨_, _, rfl⟩ := oe_emp hy; subst hx; simp [Op.equalIn, run_underlying hu]
  · injection e with e; subst e; simp only [AV.rp] at hy; obtain ⟨_, _, rfl⟩ := oe_emp hx; subst hy; simp [Op.equalIn, run_underlying hu]
  · injection e with e; subst e; simp only [AV.rp] at hx hy; subst hx; subst hy; simp [Op.equalIn, run_underlying hu]
  · injection e with e; subst e; simp only [AV.rp] at hx hy; obtain ⟨_, _, _, _, rfl⟩ := hy; subst hx; simp [Op.equalIn, run_underlying hu]
  · injection e with e; subst e; simp only [AV.rp] at hx hy; obtain ⟨_, _, _, _, rfl⟩ := hx; subst hy; simp [Op.equalIn, run_underlying hu]
  · injection e with e; subst e; simp only [AV.rp] at hx hy; subst hx; subst hy; simp [Op.equalIn, run_underlying hu]
  · injection e with e; subst e; simp only [AV.rp] at hx hy; obtain ⟨_, _, rfl, _, _⟩ := hy; subst hx; simp [Op.equalIn, run_underlying hu]
  · injection e with e; subst e; simp only [AV.rp] at hx hy; obtain ⟨_, _, rfl, _, _⟩ := hx; subst hy; simp [Op.equalIn, run_underlying hu]
  · injection e with e; subst e; simp only [AV.rp] at hx hy; subst hx; subst hy; simp [Op.equalIn, run_underlying hu]
  · injection e with e; subst e; simp only [AV.rp] at hx hy; obtain ⟨_, rfl, _⟩ := hy; subst hx; simp [Op.equalIn, run_underlying hu]
  · injection e with e; subst e; simp only [AV.rp] at hx hy; obtain ⟨_, rfl, _⟩ := hx; subst hy; simp [Op.equalIn, run_underlying hu]
  · exact eqD_snd hu e hx hy n
theorem eqFs_cons (eq : TypeId → AV → AV → Option Bool) (a b : List AV) (f : Field) (fs : List Field) : eqFs P eq a b (f :: fs) = bif decide (f.name = "_") then none else (partV P f.type a f.offset).bind fun x => (partV P f.type b f.offset).bind fun y => (eq f.type x y).bind fun r => Bool.rec (motive := fun _ => Option Bool) (some false) (eqFs P eq a b fs) r := rfl
theorem eqFs_snd {n : Nat} {eq : TypeId → AV → AV → Option Bool} (heq : ∀ t x y r vx vy, eq t x y = some r → x.rp ρ vx → y.rp ρ vy → (Op.equalIn n t vx vy).run P w = .ok r w) {a b : List AV} {xs ys : Array Value} (ha : AV.rps ρ a xs.toList) (hb : AV.rps ρ b ys.toList) : ∀ {fs : List Field} {r : Bool}, eqFs P eq a b fs = some r → (Op.eqFields n xs ys fs).run P w = .ok r w
  | [], r, e => by
    have e : some true = some r := e
    injection e with e
    subst e
    simp [Op.eqFields]
  | f :: fs, r, e => by
    rw [eqFs_cons] at e
    by_cases hn : f.name = "_"
    · rw [decide_eq_true hn] at e; cases e
    · rw [decide_eq_false hn] at e
      obtain ⟨x, h1, e⟩ := bind_some' (show (partV P f.type a f.offset).bind _ = some r from e)
      obtain ⟨y, h2, e⟩ := bind_some' e
      obtain ⟨q, h3, e⟩ := bind_some' e
      obtain ⟨vx, k1, k2⟩ := part_snd (w := w) h1 ha
      obtain ⟨vy, k3, k4⟩ := part_snd (w := w) h2 hb
      have k5 := heq _ _ _ _ _ _ h3 k2 k4
      cases q with
      | false =>
        have e : some false = some r := e
        injection e with e
        subst e
        simp [Op.eqFields, hn, k1, k3, k5]
      | true =>
        have e : eqFs P eq a b fs = some r := e
        have ih := eqFs_snd heq ha hb e
        simp [Op.eqFields, hn, k1, k3, k5, ih]
theorem eqEs_cons (eq : TypeId → AV → AV → Option Bool) (e : TypeId) (k : Nat) (a b : List AV) (i : Nat) (is : List Nat) : eqEs P eq e k a b (i :: is) = (partV P e a (Nat.mul i k)).bind fun x => (partV P e b (Nat.mul i k)).bind fun y => (eq e x y).bind fun r => Bool.rec (motive := fun _ => Option Bool) (some false) (eqEs P eq e k a b is) r := rfl
theorem eqEs_snd {n : Nat} {eq : TypeId → AV → AV → Option Bool} (heq : ∀ t x y r vx vy, eq t x y = some r → x.rp ρ vx → y.rp ρ vy → (Op.equalIn n t vx vy).run P w = .ok r w) {a b : List AV} {xs ys : Array Value} (ha : AV.rps ρ a xs.toList) (hb : AV.rps ρ b ys.toList) {t : TypeId} {k : Nat} : ∀ {is : List Nat} {r : Bool}, eqEs P eq t k a b is = some r → (Op.eqItems n t k xs ys is).run P w = .ok r w
  | [], r, e => by
    have e : some true = some r := e
    injection e with e
    subst e
    simp [Op.eqItems]
  | i :: is, r, e => by
    rw [eqEs_cons] at e
    obtain ⟨x, h1, e⟩ := bind_some' (show (partV P t a (Nat.mul i k)).bind _ = some r from e)
    obtain ⟨y, h2, e⟩ := bind_some' e
    obtain ⟨q, h3, e⟩ := bind_some' e
    obtain ⟨vx, k1, k2⟩ := part_snd (w := w) h1 ha
    obtain ⟨vy, k3, k4⟩ := part_snd (w := w) h2 hb
    have k1 : (part t xs (i * k)).run P w = .ok vx w := k1
    have k3 : (part t ys (i * k)).run P w = .ok vy w := k3
    have k5 := heq _ _ _ _ _ _ h3 k2 k4
    cases q with
    | false =>
      have e : some false = some r := e
      injection e with e
      subst e
      simp [Op.eqItems, k1, k3, k5]
    | true =>
      have e : eqEs P eq t k a b is = some r := e
      have ih := eqEs_snd heq ha hb e
      simp [Op.eqItems, k1, k3, k5, ih]
theorem eqS_cases {ih : TypeId → AV → AV → Option Bool} {t : TypeId} {x y : AV} {r : Bool} (e : eqS P ih t x y = some r) :
    (∃ fs a b, P.underlying t = some (.struct fs) ∧ x = .agg a ∧ y = .agg b ∧ P.stoodInHeld t = false ∧ eqFs P ih a b fs.toList = some r) ∨ (∃ n e k a b, P.underlying t = some (.array n e) ∧ x = .agg a ∧ y = .agg b ∧ szO P e = some k ∧ eqEs P ih e k a b (List.range n) = some r) ∨ ∃ d, P.underlying t = some d ∧ eqC d x y = some r := by
  unfold eqS at e
  cases hu : P.underlying t with
  | none => rw [hu] at e; cases e
  | some d =>
    rw [hu] at e
    cases d with
    | struct fs =>
      cases x with
      | agg a =>
        cases y with
        | agg b =>
          have e : (bif P.stoodInHeld t then none else eqFs P ih a b fs.toList) = some r := e
          cases hs : P.stoodInHeld t with
          | true => rw [hs] at e; cases e
          | false => rw [hs] at e; exact .inl ⟨fs, a, b, rfl, rfl, rfl, rfl, e⟩
        | _ => exact .inr (.inr ⟨_, rfl, e⟩)
      | _ => exact .inr (.inr ⟨_, rfl, e⟩)
    | array n el =>
      cases x with
      | agg a =>
        cases y with
        | agg b =>
          obtain ⟨k, h1, h2⟩ := bind_some' (show (szO P el).bind (fun k => eqEs P ih el k a b (List.range n)) = some r from e)
          exact .inr (.inl ⟨n, el, k, a, b, rfl, rfl, rfl, h1, h2⟩)
        | _ => exact .inr (.inr ⟨_, rfl, e⟩)
      | _ => exact .inr (.inr ⟨_, rfl, e⟩)
    | _ => exact .inr (.inr ⟨_, rfl, e⟩)
theorem eqT_snd : ∀ (n : Nat) (t : TypeId) (x y : AV) (r : Bool) (vx vy : Value), eqT P n t x y = some r → x.rp ρ vx → y.rp ρ vy → (Op.equalIn n t vx vy).run P w = .ok r w
  | 0, t, x, y, r, vx, vy, e, _, _ => by cases e
  | n + 1, t, x, y, r, vx, vy, e, hx, hy => by
    rcases eqS_cases (show eqS P (eqT P n) t x y = some r from e) with ⟨fs, a, b, hu, rfl, rfl, hs, e2⟩ | ⟨m, el, k, a, b, hu, rfl, rfl, hk, e2⟩ | ⟨d, hu, e2⟩
    · simp only [AV.rp] at hx hy
      obtain ⟨xs, rfl, h1⟩ := hx
      obtain ⟨ys, rfl, h2⟩ := hy
      have hf : P.fieldsOf t = fs := by unfold Program.fieldsOf; rw [hu]
      rw [run_equalIn_struct w n t xs ys (by rw [hf]; exact hu) hs, hf]
      exact eqFs_snd (fun t x y r vx vy h3 h4 h5 => eqT_snd n t x y r vx vy h3 h4 h5) h1 h2 e2
    · simp only [AV.rp] at hx hy
      obtain ⟨xs, rfl, h1⟩ := hx
      obtain ⟨ys, rfl, h2⟩ := hy
      obtain ⟨i, hi, rfl⟩ := szO_some hk
      have hc : P.cellsOf el = i.size := by simp [Program.cellsOf, hi]
      rw [run_equalIn_array w n xs ys hu hi, hc]
      exact eqEs_snd (fun t x y r vx vy h3 h4 h5 => eqT_snd n t x y r vx vy h3 h4 h5) h1 h2 e2
    · exact eqC_snd hu e2 hx hy n
theorem guard_one {op : BinOp} {t : TypeId} {ox oy : Operand} {vx vy : Value} (h1 : ∀ a, vx ≠ .agg a) (h2 : vx ≠ .nilIface) : (eqGuard op t ox oy vx vy).run P w = .ok () w := by
  unfold eqGuard
  cases op <;> first
    | (simp; done)
    | (cases vx <;> first | exact absurd rfl (h1 _) | exact absurd rfl h2 | (cases vy <;> simp))
theorem guard_un {t : TypeId} {xc yc : Bool} {x y : AV} (e : guardB P t xc yc x y = true) : (∀ s e, x ≠ .sx s e) ∧ ∀ s e, y ≠ .sx s e := by
  refine ⟨fun s2 e2 h => ?_, fun s2 e2 h => ?_⟩
  · subst h; cases e
  · subst h
    cases x <;> cases e
theorem rp_shape {x : AV} {v : Value} (h : x.rp ρ v) (hu : ∀ s e, x ≠ .sx s e) : (∀ a, v = .agg a → ∃ l, x = .agg l) ∧ (v = .nilIface → x = .nili) ∧ (∀ k n, v = .int k n → x = .int k n) ∧ (∀ s, v = .string s → ∃ l, x = .str l) := by
  cases x
  case sx s2 e2 => exact absurd rfl (hu s2 e2)
  case agg l => simp only [AV.rp] at h; obtain ⟨a, rfl, _⟩ := h; exact ⟨fun _ _ => ⟨l, rfl⟩, fun h => (by cases h), fun _ _ h => (by cases h), fun _ h => (by cases h)⟩
  case nili => simp only [AV.rp] at h; subst h; exact ⟨fun _ h => (by cases h), fun _ => rfl, fun _ _ h => (by cases h), fun _ h => (by cases h)⟩
  case int k n => simp only [AV.rp] at h; subst h; exact ⟨fun _ h => (by cases h), fun h => (by cases h), fun _ _ h => (by cases h; rfl), fun _ h => (by cases h)⟩
  case str l => simp only [AV.rp] at h; obtain ⟨_, rfl⟩ := h; exact ⟨fun _ h => (by cases h), fun h => (by cases h), fun _ _ h => (by cases h), fun _ _ => ⟨l, rfl⟩⟩
  case func => simp only [AV.rp] at h; obtain ⟨_, _, rfl, _⟩ := h; exact ⟨fun _ h => (by cases h), fun h => (by cases h), fun _ _ h => (by cases h), fun _ h => (by cases h)⟩
  case iface => simp only [AV.rp] at h; obtain ⟨_, rfl, _⟩ := h; exact ⟨fun _ h => (by cases h), fun h => (by cases h), fun _ _ h => (by cases h), fun _ h => (by cases h)⟩
  case tup => simp only [AV.rp] at h; obtain ⟨_, rfl, _⟩ := h; exact ⟨fun _ h => (by cases h), fun h => (by cases h), fun _ _ h => (by cases h), fun _ h => (by cases h)⟩
  case fp => simp only [AV.rp] at h; obtain ⟨_, _, _, rfl, _⟩ := h; exact ⟨fun _ h => (by cases h), fun h => (by cases h), fun _ _ h => (by cases h), fun _ h => (by cases h)⟩
  case oe => simp only [AV.rp] at h; obtain ⟨_, _, _, _, _, ⟨_, rfl⟩ | ⟨_, _, rfl⟩⟩ := h <;> exact ⟨fun _ h => (by cases h), fun h => (by cases h), fun _ _ h => (by cases h), fun _ h => (by cases h)⟩
  case ol => simp only [AV.rp, Sh.rp] at h; obtain ⟨⟨_, _, rfl, _⟩, _⟩ := h; exact ⟨fun _ h => (by cases h), fun h => (by cases h), fun _ _ h => (by cases h), fun _ h => (by cases h)⟩
  all_goals
    simp only [AV.rp] at h
    first
      | subst h
      | (obtain ⟨_, _, rfl⟩ := h)
      | (obtain ⟨_, _, _, _, rfl⟩ := h)
      | (obtain ⟨_, _, _, _, _, rfl⟩ := h)
    exact ⟨fun _ h => (by cases h), fun h => (by cases h), fun _ _ h => (by cases h), fun _ h => (by cases h)⟩
theorem rp_nofloat {x : AV} {v : Value} (h : x.rp ρ v) (hu : ∀ s e, x ≠ .sx s e) : (∀ k b, v ≠ .float k b) ∧ ∀ k a b, v ≠ .complex k a b := by
  cases x
  case sx s2 e2 => exact absurd rfl (hu s2 e2)
  case func => simp only [AV.rp] at h; obtain ⟨_, _, rfl, _⟩ := h; exact ⟨fun _ _ h => (by cases h), fun _ _ _ h => (by cases h)⟩
  case iface => simp only [AV.rp] at h; obtain ⟨_, rfl, _⟩ := h; exact ⟨fun _ _ h => (by cases h), fun _ _ _ h => (by cases h)⟩
  case tup => simp only [AV.rp] at h; obtain ⟨_, rfl, _⟩ := h; exact ⟨fun _ _ h => (by cases h), fun _ _ _ h => (by cases h)⟩
  case fp => simp only [AV.rp] at h; obtain ⟨_, _, _, rfl, _⟩ := h; exact ⟨fun _ _ h => (by cases h), fun _ _ _ h => (by cases h)⟩
  case oe => simp only [AV.rp] at h; obtain ⟨_, _, _, _, _, ⟨_, rfl⟩ | ⟨_, _, rfl⟩⟩ := h <;> exact ⟨fun _ _ h => (by cases h), fun _ _ _ h => (by cases h)⟩
  case ol => simp only [AV.rp, Sh.rp] at h; obtain ⟨⟨_, _, rfl, _⟩, _⟩ := h; exact ⟨fun _ _ h => (by cases h), fun _ _ _ h => (by cases h)⟩
  case agg => simp only [AV.rp] at h; obtain ⟨_, rfl, _⟩ := h; exact ⟨fun _ _ h => (by cases h), fun _ _ _ h => (by cases h)⟩
  case str => simp only [AV.rp] at h; obtain ⟨_, rfl⟩ := h; exact ⟨fun _ _ h => (by cases h), fun _ _ _ h => (by cases h)⟩
  all_goals
    simp only [AV.rp] at h
    first
      | subst h
      | (obtain ⟨_, _, rfl⟩ := h)
      | (obtain ⟨_, _, _, _, rfl⟩ := h)
      | (obtain ⟨_, _, _, _, _, rfl⟩ := h)
    exact ⟨fun _ _ h => (by cases h), fun _ _ _ h => (by cases h)⟩
theorem binOp_eql {t : TypeId} {vx vy : Value} (h1 : ∀ k b, vx ≠ .float k b) (h2 : ∀ k a b, vx ≠ .complex k a b) (h3 : ¬ ∃ k a k' b, vx = .int k a ∧ vy = .int k' b) (h4 : ¬ ∃ a b, vx = .string a ∧ vy = .string b) :
    binOp .eql t vx vy = (do pure (.bool (← Op.equal t vx vy))) ∧ binOp .neq t vx vy = (do pure (.bool (!(← Op.equal t vx vy)))) := by
  cases vx <;> first
    | exact absurd rfl (h1 _ _)
    | exact absurd rfl (h2 _ _ _)
    | (cases vy <;> first | exact ⟨rfl, rfl⟩ | exact absurd ⟨_, _, _, _, rfl, rfl⟩ h3 | exact absurd ⟨_, _, rfl, rfl⟩ h4)
theorem guard_snd {op : BinOp} {t : TypeId} {ox oy : Operand} {x y : AV} {vx vy : Value} (e : guardB P t (isConst ox) (isConst oy) x y = true) (hx : x.rp ρ vx) (hy : y.rp ρ vy) : (eqGuard op t ox oy vx vy).run P w = .ok () w := by
  obtain ⟨x1, x2, _, _⟩ := rp_shape hx (guard_un e).1
  obtain ⟨y1, y2, _, _⟩ := rp_shape hy (guard_un e).2
  by_cases h1 : vx = .nilIface
  · have := x2 h1
    subst this h1
    by_cases h2 : vy = .nilIface
    · have := y2 h2
      subst this h2
      unfold eqGuard
      cases op <;> cases ox <;> cases oy <;> first
        | (simp; done)
        | cases e
    · unfold eqGuard
      cases op <;> first
        | (simp; done)
        | (cases vy <;> first | exact absurd rfl h2 | (simp; done))
  · by_cases h3 : ∃ a, vx = .agg a
    · obtain ⟨a, rfl⟩ := h3
      obtain ⟨l, rfl⟩ := x1 a rfl
      by_cases h4 : ∃ b, vy = .agg b
      · obtain ⟨b, rfl⟩ := h4
        obtain ⟨m, rfl⟩ := y1 b rfl
        have e : (!P.eqGuardType P.depth t) = true := e
        exact run_eqGuard_agg w op t ox oy a b (by simpa using e)
      · unfold eqGuard
        cases op <;> first
          | (simp; done)
          | (cases vy <;> first | exact absurd ⟨_, rfl⟩ h4 | (simp; done))
    · exact guard_one (fun a ha => h3 ⟨a, ha⟩) h1
theorem binV_snd {op : BinOp} {t : TypeId} {ox oy : Operand} {x y z : AV} {vx vy : Value} (e : binV P op t (isConst ox) (isConst oy) x y = some z) (hx : x.rp ρ vx) (hy : y.rp ρ vy) : ∃ v, (do eqGuard op t ox oy vx vy; binOp op t vx vy : Sem Value).run P w = .ok v w ∧ z.rp ρ v := by
  by_cases hi : ∃ k a k' b, x = .int k a ∧ y = .int k' b
  · obtain ⟨k, a, k', b, rfl, rfl⟩ := hi
    simp only [AV.rp] at hx hy
    subst hx hy
    have hg : (eqGuard op t ox oy (.int k a) (.int k' b)).run P w = .ok () w := guard_one (fun a h => by cases h) (by simp)
    have hs : ∃ v, (binOp op t (.int k a) (.int k' b)).run P w = .ok v w ∧ ∀ ρ, z.rp ρ v := by
      cases op with
      | shl => exact shiftOp_snd (show shiftOp .shl k a b = some z from e) (.inl rfl) t
      | shr => exact shiftOp_snd (show shiftOp .shr k a b = some z from e) (.inr rfl) t
      | _ =>
        obtain ⟨h1, e5⟩ := bif_some (show (bif decide (k = k') then intOp _ k a b else none) = some z from e)
        have hk : k = k' := of_decide_eq_true h1
        subst hk
        exact intOp_snd e5 (by simp) (by simp) t
    obtain ⟨v, h1, h2⟩ := hs
    exact ⟨v, by rw [Sem.run_bind, hg]; exact h1, h2 ρ⟩
  · by_cases hs : ∃ a b, x = .str a ∧ y = .str b
    · obtain ⟨a, b, rfl, rfl⟩ := hs
      simp only [AV.rp] at hx hy
      obtain ⟨ha, rfl⟩ := hx
      obtain ⟨hb, rfl⟩ := hy
      have hg : (eqGuard op t ox oy (.string (bytesOf a)) (.string (bytesOf b))).run P w = .ok () w := guard_one (fun a h => by cases h) (by simp)
      obtain ⟨v, h1, h2⟩ := strOp_snd (P := P) (ρ := ρ) (w := w) (show strOp op a b = some z from e) ha hb t
      exact ⟨v, by rw [Sem.run_bind, hg]; exact h1, h2⟩
    · have e2 : (bif guardB P t (isConst ox) (isConst oy) x y then
          match op with
          | .eql => (eqT P 10000 t x y).bind bv
          | .neq => (eqT P 10000 t x y).bind fun b => bv (!b)
          | _ => none
          else none) = some z := by
        rw [← e]
        unfold binV
        cases x <;> first
          | rfl
          | (cases y <;> first | rfl | exact absurd ⟨_, _, _, _, rfl, rfl⟩ hi | exact absurd ⟨_, _, rfl, rfl⟩ hs)
      obtain ⟨h1, e3⟩ := bif_some e2
      have hg := guard_snd (P := P) (ρ := ρ) (w := w) (op := op) h1 hx hy
      obtain ⟨x1, x2, x3, x4⟩ := rp_shape hx (guard_un h1).1
      obtain ⟨y1, y2, y3, y4⟩ := rp_shape hy (guard_un h1).2
      obtain ⟨f1, f2⟩ := rp_nofloat hx (guard_un h1).1
      obtain ⟨b1, b2⟩ := binOp_eql (t := t) f1 f2 (vy := vy) (fun ⟨k, a, k', b, h1, h2⟩ => hi ⟨k, a, k', b, x3 k a h1, y3 k' b h2⟩) (fun ⟨a, b, h1, h2⟩ => by
        obtain ⟨l, hl⟩ := x4 a h1
        obtain ⟨m, hm⟩ := y4 b h2
        exact hs ⟨l, m, hl, hm⟩)
      cases op with
      | eql =>
        obtain ⟨r, h3, h4⟩ := bind_some' (show (eqT P 10000 t x y).bind bv = some z from e3)
        injection h4 with h4
        subst h4
        have h5 : (Op.equal t vx vy).run P w = .ok r w := eqT_snd (P := P) (ρ := ρ) (w := w) 10000 t x y r vx vy h3 hx hy
        refine ⟨.bool r, ?_, by simp only [AV.rp]⟩
        rw [Sem.run_bind, hg, b1]
        simp [h5]
      | neq =>
        obtain ⟨r, h3, h4⟩ := bind_some' (show (eqT P 10000 t x y).bind (fun b => bv (!b)) = some z from e3)
        injection h4 with h4
        subst h4
        have h5 : (Op.equal t vx vy).run P w = .ok r w := eqT_snd (P := P) (ρ := ρ) (w := w) 10000 t x y r vx vy h3 hx hy
        refine ⟨.bool (!r), ?_, by simp only [AV.rp]⟩
        rw [Sem.run_bind, hg, b2]
        simp [h5]
      | _ => cases e3
end
end Go.Proofs.YtdflkikhmngfiaaGreatDoor

