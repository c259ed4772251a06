/- Results that are known rows; functions by trees; runs at known arguments. -/
import Derived.Test.YtdflkikhmngfiaaGreatDoorZ22
namespace Go.Proofs.YtdflkikhmngfiaaGreatDoor
open Go.RowKit
set_option linter.unusedVariables false
set_option linter.unusedSimpArgs false
set_option linter.unusedSectionVars false

section
variable [Sy] [Dc] [DcOK]
noncomputable def rowX (h : Heap) (t : Sh) (n e : Nat) (len : Nat) : Option Xp := Nat.rec (motive := fun _ => Option Xp) (some .lnil) (fun i ih => ih.bind fun l => (cl h n (Nat.add e i)).bind fun x => (matS t x).bind fun a => some (.snoc l a)) len
noncomputable def matSH (h : Heap) (s : Sh) (x : AV) : Option Xp := match s, x with
  | .lst [t], .os n 1 e len => rowX h t n e len
  | .lst [t], .sl n o len cap => (fun b => Bool.rec (motive := fun _ => Option Xp) none (rowX h t n o len) b) (Nat.ble len cap)
  | s, x => matS s x
noncomputable def matCH (h : Heap) (l : List Sh) : List AV → Option Xp := List.rec (motive := fun _ => List AV → Option Xp) (fun m => match m with | [] => some .nil | _ => none) (fun t _ ih m => match m with | x :: m => (matSH h t x).bind fun e => (ih m).bind fun r => some (.cons e r) | _ => none) l
noncomputable def matTH (h : Heap) (t : Tm) (x : AV) : Option Xp := match t with
  | .sh s => matSH h s x
  | .agg l => match x with
    | .agg m => matCH h l m
    | _ => none
noncomputable def matLH (h : Heap) (l : List Tm) : List AV → Option Xp := List.rec (motive := fun _ => List AV → Option Xp) (fun m => match m with | [] => some .nil | _ => none) (fun t _ ih m => match m with | x :: m => (matTH h t x).bind fun e => (ih m).bind fun r => some (.cons e r) | _ => none) l
noncomputable def matMH (h : Heap) (ts : List Tm) (x : AV) : Option Xp := match x with
  | .tup m => matLH h ts m
  | _ => none
noncomputable def matRH (h : Heap) (ts : List Tm) (x : AV) : Option Xp := match ts with
  | [t] => matTH h t x
  | ts => matMH h ts x
theorem rowX_rp {B : Nat} {ρ : Pm} {h : Heap} {w : World} (hr : Rep B ρ h w) {t : Sh} {n e : Nat} {F : Fz} (hle : ρ.fz.le F) (hF : ∀ b i u, B ≤ b → w.cell? ⟨b, i, none⟩ = some u → F b i = some u) {b f c : Nat} (hn : ρ n = some (b, f, c)) :
    ∀ (len : Nat) {l : Xp}, rowX h t n e len = some l → l.den.l.length = len ∧ ∀ i x, l.den.l[i]? = some x → ∃ u, F b (f + e + i) = some u ∧ t.rp F x u
  | 0, l, hl => by
    have hl : some Xp.lnil = some l := hl
    injection hl with hl
    subst hl
    exact ⟨rfl, fun i x hx => by cases hx⟩
  | len + 1, l, hl => by
    have hl : (rowX h t n e len).bind (fun l => (cl h n (Nat.add e len)).bind fun x => (matS t x).bind fun a => some (.snoc l a)) = some l := hl
    obtain ⟨l1, h1, hl⟩ := bind_some' hl
    obtain ⟨x1, h2, hl⟩ := bind_some' hl
    obtain ⟨a, h3, hl⟩ := bind_some' hl
    injection hl with hl
    subst hl
    obtain ⟨k1, k2⟩ := rowX_rp hr hle hF hn len h1
    obtain ⟨b', f', c2, v0, arr, el, fz, g1, g2, g3, g4, g5, g6, g7⟩ := hr.cell h2
    rw [hn] at g1
    injection g1 with g1
    injection g1 with g1 g8
    injection g8 with g8 g9
    subst g1 g8 g9
    refine ⟨by show (l1.den.l ++ [a.den]).length = _; rw [List.length_append, k1]; rfl, fun i x hx => ?_⟩
    have hx : (l1.den.l ++ [a.den])[i]? = some x := hx
    by_cases hi : i < len
    · rw [List.getElem?_append_left (by omega)] at hx
      exact k2 i x hx
    · rw [List.getElem?_append_right (by omega), k1] at hx
      have hi2 : i = len := by
        have := (List.getElem?_eq_some_iff.1 hx).1
        simp at this
        omega
      subst hi2
      rw [Nat.sub_self] at hx
      injection hx with hx
      subst hx
      exact ⟨v0, by rw [Nat.add_assoc]; exact hF b _ v0 g2 g5, (matS_rp h3 g6).mono hle⟩
theorem matSH_rp {B : Nat} {ρ : Pm} {h : Heap} {w : World} (hr : Rep B ρ h w) {F : Fz} (hle : ρ.fz.le F) (hF : ∀ b i u, B ≤ b → w.cell? ⟨b, i, none⟩ = some u → F b i = some u) {s : Sh} {x : AV} {e : Xp} (hm : matSH h s x = some e) {v : Value} (hx : x.rp ρ v) : s.rp F e.den v := by
  have plain : matS s x = some e → s.rp F e.den v := fun hm => (matS_rp hm hx).mono hle
  have lst : ∀ {t : Sh} {n o len : Nat} {b f c cap : Nat}, rowX h t n o len = some e → ρ n = some (b, f, c) → len ≤ cap → v = .slice (some ⟨b, f + o, none⟩) len cap → Sh.rp F (.lst [t]) e.den v := fun {t n o len b f c cap} hm hn hc hv => by
    obtain ⟨k1, k2⟩ := rowX_rp hr hle hF hn len hm
    simp only [Sh.rp]
    refine ⟨some ⟨b, f + o, none⟩, cap, by rw [k1]; exact hv, by rw [k1]; exact hc, .inr ⟨b, f + o, rfl, fun i y hy => ?_⟩⟩
    obtain ⟨u, q1, q2⟩ := k2 i y hy
    refine ⟨⟨u, ?_, ?_⟩, trivial⟩
    · show F b (f + o + i * 1 + 0) = some u
      rw [show f + o + i * 1 + 0 = f + o + i by omega]
      exact q1
    · exact q2
  unfold matSH at hm
  split at hm
  · simp only [AV.rp] at hx
    rename_i n o len
    obtain ⟨b, f, c, h1, h2, h3⟩ := hx
    exact lst (cap := c - o) hm h1 (by omega) (by rw [h3, Nat.mul_one])
  · rename_i n o len cap
    simp only [AV.rp] at hx
    obtain ⟨b, f, c, h1, h2⟩ := hx
    cases hb : Nat.ble len cap with
    | false => rw [hb] at hm; cases hm
    | true =>
      rw [hb] at hm
      exact lst hm h1 (Nat.le_of_ble_eq_true hb) h2
  · exact plain hm
theorem matCH_rp {B : Nat} {ρ : Pm} {h : Heap} {w : World} (hr : Rep B ρ h w) {F : Fz} (hle : ρ.fz.le F) (hF : ∀ b i u, B ≤ b → w.cell? ⟨b, i, none⟩ = some u → F b i = some u) : ∀ {l : List Sh} {m : List AV} {e : Xp} (hm : matCH h l m = some e) {vs : List Value} (hx : AV.rps ρ m vs), (∃ L, e.den = .tup L) ∧ ∀ {p : PV} {j : Nat}, (∀ i q, e.den.t[i]? = some q → p.cl (j + i) = q) → cellsOK F l p j vs
  | [], m, e, hm, vs, hx => by
    cases m with
    | nil =>
      injection hm with hm
      subst hm
      rw [rps_nil] at hx
      exact ⟨⟨_, rfl⟩, fun _ => hx⟩
    | cons _ _ => cases hm
  | s :: l, m, e, hm, vs, hx => by
    cases m with
    | nil => cases hm
    | cons x m =>
      obtain ⟨e1, h1, h2⟩ := bind_some' (show (matSH h s x).bind (fun e => (matCH h l m).bind fun r => some (.cons e r)) = some e from hm)
      obtain ⟨e2, h3, h4⟩ := bind_some' h2
      injection h4 with h4
      subst h4
      rw [rps_cons] at hx
      obtain ⟨y, m', rfl, k1, k2⟩ := hx
      refine ⟨⟨_, rfl⟩, fun {p j} hp => ⟨y, m', rfl, ?_, (matCH_rp hr hle hF h3 k2).2 fun i q hq => ?_⟩⟩
      · rw [show p.cl j = e1.den from hp 0 _ rfl]
        exact matSH_rp hr hle hF h1 k1
      · rw [show j + 1 + i = j + (i + 1) by omega]
        exact hp (i + 1) q (by show (e1.den :: e2.den.t)[i + 1]? = some q; simpa using hq)
theorem matTH_rp {B : Nat} {ρ : Pm} {h : Heap} {w : World} (hr : Rep B ρ h w) {F : Fz} (hle : ρ.fz.le F) (hF : ∀ b i u, B ≤ b → w.cell? ⟨b, i, none⟩ = some u → F b i = some u) {t : Tm} {x : AV} {e : Xp} (hm : matTH h t x = some e) {v : Value} (hx : x.rp ρ v) : t.rp F e.den v := by
  cases t with
  | sh s => exact matSH_rp hr hle hF hm hx
  | agg l =>
    cases x with
    | agg m =>
      simp only [AV.rp] at hx
      obtain ⟨a, rfl, hx⟩ := hx
      obtain ⟨k1, k2⟩ := matCH_rp hr hle hF hm hx
      exact ⟨a, rfl, k2 (den_tup k1)⟩
    | _ => cases hm
theorem matLH_rp {B : Nat} {ρ : Pm} {h : Heap} {w : World} (hr : Rep B ρ h w) {F : Fz} (hle : ρ.fz.le F) (hF : ∀ b i u, B ≤ b → w.cell? ⟨b, i, none⟩ = some u → F b i = some u) : ∀ {l : List Tm} {m : List AV} {e : Xp} (hm : matLH h l m = some e) {vs : List Value} (hx : AV.rps ρ m vs), (∃ L, e.den = .tup L) ∧ ∀ {p : PV} {j : Nat}, (∀ i q, e.den.t[i]? = some q → p.cl (j + i) = q) → tupOK F l p j vs
  | [], m, e, hm, vs, hx => by
    cases m with
    | nil =>
      injection hm with hm
      subst hm
      rw [rps_nil] at hx
      exact ⟨⟨_, rfl⟩, fun _ => hx⟩
    | cons _ _ => cases hm
  | s :: l, m, e, hm, vs, hx => by
    cases m with
    | nil => cases hm
    | cons x m =>
      obtain ⟨e1, h1, h2⟩ := bind_some' (show (matTH h s x).bind (fun e => (matLH h l m).bind fun r => some (.cons e r)) = some e from hm)
      obtain ⟨e2, h3, h4⟩ := bind_some' h2
      injection h4 with h4
      subst h4
      rw [rps_cons] at hx
      obtain ⟨y, m', rfl, k1, k2⟩ := hx
      refine ⟨⟨_, rfl⟩, fun {p j} hp => ⟨y, m', rfl, ?_, (matLH_rp hr hle hF h3 k2).2 fun i q hq => ?_⟩⟩
      · rw [show p.cl j = e1.den from hp 0 _ rfl]
        exact matTH_rp hr hle hF h1 k1
      · rw [show j + 1 + i = j + (i + 1) by omega]
        exact hp (i + 1) q (by show (e1.den :: e2.den.t)[i + 1]? = some q; simpa using hq)
theorem matRH_rp {B : Nat} {ρ : Pm} {h : Heap} {w : World} (hr : Rep B ρ h w) {F : Fz} (hle : ρ.fz.le F) (hF : ∀ b i u, B ≤ b → w.cell? ⟨b, i, none⟩ = some u → F b i = some u) {ts : List Tm} {x : AV} {e : Xp} (hm : matRH h ts x = some e) {v : Value} (hx : x.rp ρ v) : resOK F ts e.den v := by
  have many : matMH h ts x = some e → ∃ a, v = .tuple a ∧ tupOK F ts e.den 0 a.toList := fun hm => by
    cases x with
    | tup m =>
      simp only [AV.rp] at hx
      obtain ⟨a, rfl, hx⟩ := hx
      obtain ⟨k1, k2⟩ := matLH_rp hr hle hF (show matLH h ts m = some e from hm) hx
      exact ⟨a, rfl, k2 (den_tup k1)⟩
    | _ => cases hm
  cases ts with
  | nil => exact many hm
  | cons t l =>
    cases l with
    | nil => exact matTH_rp hr hle hF hm hx
    | cons _ _ => exact many hm
end
/-- A run at known or unknown arguments, told by a tree; known rows among its results. -/
noncomputable def runA [Dc] (P : Program) (l : List Fs) (n : Nat) (f : FuncId) (avs : List AV) : R AV := callM P ⟨oraF l, symTab P⟩ (exec P (fun _ => none) ⟨oraF l, symTab P⟩ n) f avs 0 .leaf 0 []
noncomputable def outRH (rs : List Tm) [Dc] (r : R AV) (e : Xp) : Bool := R.rec (motive := fun _ => Bool) (fun x h _ _ => Option.rec (motive := fun _ => Bool) false (fun e' => eqX e' e) (matRH h rs x)) (fun _ => false) r
noncomputable def chkA (P : Program) (l : List Fs) (n : Nat) (f : FuncId) (avs : List AV) (rs : List Tm) (T : Tre) : List (Xp × Bool) → Bool :=
  Tre.rec (motive := fun _ => List (Xp × Bool) → Bool) (fun e Φ => @outRH rs (dcOf Φ) (@runA (dcOf Φ) P l n f avs) e) (fun c _ _ it jf Φ => it ((c, true) :: Φ) && jf ((c, false) :: Φ)) (fun c _ it Φ => it ((c, true) :: Φ)) T
theorem chk_at [Sy] {P : Program} {l : List Fs} {n : Nat} {f : FuncId} {avs : List AV} {rs : List Tm} (hN : NamesOK P) (hm : P.follows .mixedOrders = true) (hl : ∀ s ∈ l, FnOK P s) (hf : ∀ s ∈ l, s.f ≠ f) {F : Fz} {W : World} {vs : Array Value} (hF : ∀ b i v, F b i = some v → W.cell? ⟨b, i, none⟩ = some v) (hlow : ∀ b i v, F b i = some v ↔ Sy.low b i = some v) (hi : Sy.inv W.heap.size W) (hgh : ∀ b o, Sy.gh b = some o → W.heap[b]? = some o) (ha : AV.rps ⟨fun _ => none, F⟩ avs vs.toList) :
    ∀ (T : Tre) (Φ : List (Xp × Bool)), chkA P l n f avs rs T Φ = true → (∀ p ∈ Φ, p.1.den = .bool p.2) → ∀ p, T.ev = some p → Calls P f vs W fun e w' => ∃ v, e = .returned v ∧ resOK (growF F W w') rs p v ∧ Below W.heap.size W w'
  | .leaf e, Φ, h, hΦ, p, hp => by
    letI := dcOf Φ
    haveI := dcOf_ok hΦ
    injection hp with hp
    have h : @outRH rs (dcOf Φ) (@runA (dcOf Φ) P l n f avs) e = true := h
    cases hr : @runA (dcOf Φ) P l n f avs with
    | bad _ => rw [hr] at h; cases h
    | ok x h' c' lg' =>
      rw [hr] at h
      have h : Option.rec (motive := fun _ => Bool) false (fun e' => eqX e' e) (matRH h' rs x) = true := h
      cases hm2 : matRH h' rs x with
      | none => rw [hm2] at h; cases h
      | some e' =>
        rw [hm2] at h
        have he : e' = e := eqX_is h
        have hn : (⟨oraF l, symTab P⟩ : Ora).fn f = none := by
          cases ho : oraF l f with
          | none => exact ho
          | some g =>
            obtain ⟨s, h1, h2, _⟩ := oraF_some ho
            exact absurd h2 (hf s h1)
        refine (start_run (ora := ⟨oraF l, symTab P⟩) noGlob hN hm (oraF_loc l) (oraF_snd hl) symTab_snd hn (Rep.start hi hF (fun b i v h => (hlow b i v).1 h) hgh) ha hr).mono ?_
        rintro e3 w' ⟨ρ, v, rfl, h0, h1, h2, h3⟩
        have hle : ρ.fz.le (growF F W w') := fun b i u hu => by
          show (if W.heap.size ≤ b then w'.cell? ⟨b, i, none⟩ else F b i) = some u
          by_cases hb : W.heap.size ≤ b
          · rw [if_pos hb]; exact h2.frz b i u hu
          · rw [if_neg hb]; exact (hlow b i u).2 (h2.low b i u (by omega) hu)
        refine ⟨v, rfl, ?_, h3⟩
        have := matRH_rp h2 hle (fun b i u hb hu => by
          show (if W.heap.size ≤ b then w'.cell? ⟨b, i, none⟩ else F b i) = some u
          rw [if_pos hb]; exact hu) hm2 h1
        rw [he, hp] at this
        exact this
  | .br c t f2, Φ, h, hΦ, p, hp => by
    have h : (chkA P l n f avs rs t ((c, true) :: Φ) && chkA P l n f avs rs f2 ((c, false) :: Φ)) = true := h
    rw [Bool.and_eq_true] at h
    unfold Tre.ev at hp
    split at hp
    · rename_i hc
      exact chk_at hN hm hl hf hF hlow hi hgh ha t _ h.1 (fun q hq => by rcases List.mem_cons.1 hq with rfl | hq; exact hc; exact hΦ q hq) p hp
    · rename_i hc
      exact chk_at hN hm hl hf hF hlow hi hgh ha f2 _ h.2 (fun q hq => by rcases List.mem_cons.1 hq with rfl | hq; exact hc; exact hΦ q hq) p hp
    · cases hp
  | .must c t, Φ, h, hΦ, p, hp => by
    have h : chkA P l n f avs rs t ((c, true) :: Φ) = true := h
    unfold Tre.ev at hp
    split at hp
    · rename_i hc
      exact chk_at hN hm hl hf hF hlow hi hgh ha t _ h (fun q hq => by rcases List.mem_cons.1 hq with rfl | hq; exact hc; exact hΦ q hq) p hp
    · cases hp
theorem den_fn {S1 S2 : Sy} (h1 : S1.env = S2.env) (h2 : S1.fn = S2.fn) : @Xp.den S1 = @Xp.den S2 := by
  funext e
  induction e with
  | var i => exact congrFun h1 i
  | int n => rfl
  | bool b => rfl
  | str l => rfl
  | nil => rfl
  | lnil => rfl
  | bin op k a b ia ib => simp only [Xp.den, ia, ib]
  | wrap k a ia => simp only [Xp.den, ia]
  | cmpi op a b ia ib => simp only [Xp.den, ia, ib]
  | eqs a b ia ib => simp only [Xp.den, ia, ib]
  | eqb a b ia ib => simp only [Xp.den, ia, ib]
  | not a ia => simp only [Xp.den, ia]
  | cat a b ia ib => simp only [Xp.den, ia, ib]
  | lens a ia => simp only [Xp.den, ia]
  | lenl a ia => simp only [Xp.den, ia]
  | «at» a b ia ib => simp only [Xp.den, ia, ib]
  | subs a b c ia ib ic => simp only [Xp.den, ia, ib, ic]
  | subl a b c ia ib ic => simp only [Xp.den, ia, ib, ic]
  | inb a b ia ib => simp only [Xp.den, ia, ib]
  | rng a b c ia ib ic => simp only [Xp.den, ia, ib, ic]
  | get a b z j ia ib => simp only [Xp.den, ia, ib]
  | cell a j ia => simp only [Xp.den, ia]
  | app f a ia => simp only [Xp.den, ia, h2]
  | cons a b ia ib => simp only [Xp.den, ia, ib]
  | snoc a b ia ib => simp only [Xp.den, ia, ib]
  | catl a b ia ib => simp only [Xp.den, ia, ib]
  | ofB a ia => simp only [Xp.den, ia]
  | toB a ia => simp only [Xp.den, ia]
theorem ev_fn {S1 S2 : Sy} (h1 : S1.env = S2.env) (h2 : S1.fn = S2.fn) : ∀ T : Tre, @Tre.ev S1 T = @Tre.ev S2 T
  | .leaf e => by unfold Tre.ev; rw [den_fn h1 h2]
  | .br c t f => by unfold Tre.ev; rw [den_fn h1 h2, ev_fn h1 h2 t, ev_fn h1 h2 f]
  | .must c t => by unfold Tre.ev; rw [den_fn h1 h2, ev_fn h1 h2 t]
theorem ev_lo (S : Sy) (F : Fz) (env : Env) (T : Tre) : @Tre.ev ((S.lo F).at env) T = @Tre.ev (S.at env) T := ev_fn (S1 := (S.lo F).at env) (S2 := S.at env) rfl rfl T
/-- A function by contract, out of a tree. -/
theorem tree_ok [S : Sy] {P : Program} {l : List Fs} {m : Nat} {f : FuncId} {ats rs : List Tm} {n : Nat} {pre : Option Nat} {T : Tre} (hcall : ∀ w vs, (callFunc f vs).run P w = .ok (.enter f vs) w) (hN : NamesOK P) (hm : P.follows .mixedOrders = true) (hl : ∀ s ∈ l, FnOK P s) (hf : ∀ s ∈ l, s.f ≠ f)
    (hc : chkA P l m f (mkA ats 0) rs T [] = true) (hT : ∀ ps, ps.length = ats.length → (∀ k, pre = some k → S.fn k ps = .bool true) → @Tre.ev (S.at (envL ps)) T = some (S.fn n ps)) : FnOK P ⟨f, ats, rs, n, pre⟩ := by
  refine ⟨hcall, fun F W ps vs hF hi ha hp => ?_⟩
  have hlen : ∀ (l : List Tm) (ps : List PV) (m : List Value), argsOK F l ps m → ps.length = l.length := by
    intro l
    induction l with
    | nil => rintro ps m ⟨rfl, rfl⟩; rfl
    | cons t l ih =>
      rintro ps m ⟨p, ps', y, m', rfl, rfl, _, h⟩
      simp [ih _ _ h]
  have hv : @AV.rps ((S.lo F).at (envL ps)) ⟨fun _ => none, F⟩ (mkA ats 0) vs.toList := @mkA_rp ((S.lo F).at (envL ps)) noDc (@noDc_ok ((S.lo F).at (envL ps))) ⟨fun _ => none, F⟩ ats 0 ps vs.toList (fun i q hq => by
    rw [Nat.zero_add]
    show envL ps i = q
    unfold envL
    rw [hq]) ha
  have hT2 : @Tre.ev ((S.lo F).at (envL ps)) T = some (S.fn n ps) := by
    rw [← hT ps (hlen _ _ _ ha) hp]
    exact ev_lo S F (envL ps) T
  exact @chk_at ((S.lo F).at (envL ps)) P l m f (mkA ats 0) rs hN hm hl hf F W vs hF (fun _ _ _ => Iff.rfl) hi (fun _ _ h => (by cases h)) hv T [] hc (fun p h => (List.not_mem_nil h).elim) _ hT2
end Go.Proofs.YtdflkikhmngfiaaGreatDoor

