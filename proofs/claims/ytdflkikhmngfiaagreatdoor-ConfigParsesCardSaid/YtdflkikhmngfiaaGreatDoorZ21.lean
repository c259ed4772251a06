/- EyPe · EyFl · EySp · EySf: joined by a program, for a claim has at most 60 files. -/
import Derived.Test.YtdflkikhmngfiaaGreatDoorZ20
import Derived.LoopN
/- Pieces of code, from a template to templates, by decisions; loops. -/
namespace Go.Proofs.YtdflkikhmngfiaaGreatDoor
open Go.RowKit
set_option linter.unusedVariables false
set_option linter.unusedSimpArgs false
set_option linter.unusedSectionVars false

/-- How a piece ends: in a state of a template, or with the function's result. -/
inductive Lf where
  | at (k : Nat) (σ : List Xp) (r : List (Nat × Nat))
  | fin (e : Xp)
inductive Trl where
  | leaf (l : Lf)
  | br (c : Xp) (t f : Trl)
  | must (c : Xp) (t : Trl)
def Trl.sel [Sy] : Trl → Option Lf
  | .leaf l => some l
  | .br c t f => match c.den with
    | .bool true => t.sel
    | .bool false => f.sel
    | _ => none
  | .must c t => match c.den with
    | .bool true => t.sel
    | _ => none
def exB (a b : Ex) : Bool := match a, b with
  | .normal, .normal => true
  | .ret, .ret => true
  | .exit i, .exit j => Nat.beq i j
  | _, _ => false
theorem exB_eq {a b : Ex} (h : exB a b = true) : a = b := by
  cases a <;> cases b <;> first | rfl | cases h | (rw [Nat.eq_of_beq_eq_true h])
def oneV (l : List AV) : AV := match l with
  | [x] => x
  | l => .tup l
noncomputable def endL (P : Program) (fn : Func) (rs : List Tm) (e : Xp) (res : CR) (h : Heap) (c : Nat) : Bool :=
  exB res.x .ret && R.rec (motive := fun _ => Bool) (fun l _ _ _ => Option.rec (motive := fun _ => Bool) false (fun e' => eqX e' e) (matR rs (oneV l))) (fun _ => false) (resL P res.a fn.results.toList 0 h c [])
noncomputable def okL (P : Program) (fn : Func) (rs : List Tm) (K : List (Ex × St)) (l : Lf) (res : R CR) : Bool :=
  R.rec (motive := fun _ => Bool) (fun res h c _ => match l with
    | .at k σ r => Option.rec (motive := fun _ => Bool) false (fun p => exB res.x p.1 && (okA σ r p.2.a res.a && (okH σ r p.2.h h && okR r p.2.h))) (nthL K k)
    | .fin e => endL P fn rs e res h c) (fun _ => false) res
/-- So many statements of a row of them. -/
noncomputable def execPre [Dc] (P : Program) (ora : Ora) (n N : Nat) (m : Nat) : Code → Tr AV → M CR :=
  Nat.rec (motive := fun _ => Code → Tr AV → M CR) (fun c a => ret ⟨.normal, a⟩) (fun _ ih c a => match c with
    | .seq x y => bnd (exec P (fun _ => none) ora n N x a) fun r => seqM (ih y) r
    | c => exec P (fun _ => none) ora n N c a) m
/-- What is left behind them. -/
def dropC (m : Nat) : Code → Option Code :=
  Nat.rec (motive := fun _ => Code → Option Code) (fun c => some c) (fun _ ih c => match c with
    | .seq _ y => ih y
    | _ => none) m
def restQ (P : Program) (Q : Exit → Act → World → Prop) (d : Option Code) (e : Exit) (a : Act) (w : World) : Prop := match e, d with
  | .normal, some d => d.wp P Q a w
  | e, _ => Q e a w
noncomputable def runP [d : Dc] (P : Program) (ora : Dc → Ora) (n N : Nat) (m : Nat) (c : Code) (s : St) : R CR := execPre P (ora d) n N m c s.fr 0 s.hp s.c []
noncomputable def chkP (P : Program) (l : Dc → Ora) (n N m : Nat) (c : Code) (s : St) (fn : Func) (rs : List Tm) (K : List (Ex × St)) (T : Trl) : List (Xp × Bool) → Bool :=
  Trl.rec (motive := fun _ => List (Xp × Bool) → Bool) (fun e Φ => okL P fn rs K e (@runP (dcOf Φ) P l n N m c s)) (fun c _ _ it jf Φ => it ((c, true) :: Φ) && jf ((c, false) :: Φ)) (fun c _ it Φ => it ((c, true) :: Φ)) T
/-- What a piece's end says. -/
def Ends [S : Sy] (P : Program) (B : Nat) (D : List Deferred) (N : Nat) (fn : Func) (rs : List Tm) (K : List (Ex × St)) (ρ0 : Pm) (w : World) (Q : Exit → Act → World → Prop) (l : Lf) : Prop :=
  match l with
  | .at k σ r => ∀ p, K[k]? = some p → ∀ ρ act w', ρ0.le ρ → @Rep (S.at (envOf σ)) B (rnP r ρ) p.2.hp w' → @Frm (S.at (envOf σ)) D (rnP r ρ) N p.2.fr act → Below B w w' → Q p.1.out act w'
  | .fin e => ∀ act w' v F', act.defers = D → (results fn act.tmps).run P w' = .ok v w' → resOK F' rs e.den v → (∀ b i u, F' b i = some u → w'.cell? ⟨b, i, none⟩ = some u) → (∀ b i u, b < B → F' b i = some u → S.low b i = some u) → ρ0.fz.le F' → Below B w w' → Q .ret act w'
/-- What is told of functions and operations is so, whatever is decided. -/
structure OraOK [S : Sy] (P : Program) (B : Nat) (ora : Dc → Ora) : Prop where
  loc : ∀ d : Dc, @DcOK S d → OraLoc (ora d)
  snd : ∀ d : Dc, @DcOK S d → ∀ ρ0, OraSnd P B ρ0 (ora d)
  tab : ∀ d : Dc, @DcOK S d → ∀ ρ0, TabSnd P B ρ0 (ora d).tab
/-- Functions by contract. -/
noncomputable def oraFs (P : Program) (l : List Fs) (d : Dc) : Ora := ⟨@oraF d l, @symTab d P⟩
theorem oraFs_ok [S : Sy] {P : Program} {B : Nat} {l : List Fs} (hl : ∀ s ∈ l, FnOK P s) : OraOK P B (oraFs P l) :=
  ⟨fun d hd => @oraF_loc S d hd l _, fun d hd ρ0 => @oraF_snd S d hd P B ρ0 l _ hl, fun d hd ρ0 => @symTab_snd S d hd P B ρ0⟩
theorem execPre_snd [Sy] [Dc] [DcOK] {P : Program} {B : Nat} {ρ0 : Pm} {ora : Ora} {n N : Nat} (hN : NamesOK P) (hm : P.follows .mixedOrders = true) (hl : OraLoc ora) (ho : OraSnd P B ρ0 ora) (ht : TabSnd P B ρ0 ora.tab) {D : List Deferred} : ∀ (m : Nat) (c : Code) (a : Tr AV) (lo : Nat) (h : Heap) (c0 : Nat) (lg : List Ev) (r : CR) (h' : Heap) (c' : Nat) (lg' : List Ev),
    execPre P ora n N m c a lo h c0 lg = .ok r h' c' lg' → ∀ {ρ : Pm} {act : Act} {w : World} {Q : Exit → Act → World → Prop}, ρ0.le ρ → Rep B ρ h w → Frm D ρ N a act →
    (∀ ρ' act' w', ρ.le ρ' → Rep B ρ' h' w' → Frm D ρ' N r.a act' → Below B w w' → restQ P Q (dropC m c) r.x.out act' w') → c.wp P Q act w
  | 0, c, a, lo, h, c0, lg, r, h', c', lg', e, ρ, act, w, Q, hle, hr, hf, hk => by
    obtain ⟨rfl, rfl, _, _⟩ := ret_ok (show ret (⟨.normal, a⟩ : CR) lo h c0 lg = .ok r h' c' lg' from e)
    exact hk ρ act w (Pm.le.refl ρ) hr hf (Below.refl _ _)
  | m + 1, c, a, lo, h, c0, lg, r, h', c', lg', e, ρ, act, w, Q, hle, hr, hf, hk => by
    have last : exec P (fun _ => none) ora n N c a lo h c0 lg = .ok r h' c' lg' → dropC (m + 1) c = none → c.wp P Q act w := fun e hd => by
      refine (exec_snd noGlob hN hm hl ho ht n N c _ _ _ _ _ _ _ _ _ e D ρ act w Q hle hr hf fun ρ' act' w' l1 l2 l3 l4 => ?_).1
      have := hk ρ' act' w' l1 l2 l3 l4
      rw [hd] at this
      unfold restQ at this
      split at this
      · rename_i hc; cases hc
      · exact this
    cases c with
    | seq x y =>
      obtain ⟨r1, h1, c1, lg1, e1, e2⟩ := bnd_ok (show bnd (exec P (fun _ => none) ora n N x a) (fun r => seqM (execPre P ora n N m y) r) lo h c0 lg = .ok r h' c' lg' from e)
      refine wp_seq (exec_snd noGlob hN hm hl ho ht n N x _ _ _ _ _ _ _ _ _ e1 D ρ act w _ hle hr hf fun ρ1 a1 w1 l1 l2 l3 l4 => ?_).1
      unfold seqM at e2
      cases hx : r1.x with
      | normal =>
        rw [hx] at e2
        exact execPre_snd hN hm hl ho ht m y _ _ _ _ _ _ _ _ _ e2 (hle.trans l1) l2 l3 fun ρ2 a2 w2 k1 k2 k3 k4 => hk ρ2 a2 w2 (l1.trans k1) k2 k3 (l4.trans k4)
      | exit i =>
        rw [hx] at e2
        obtain ⟨rfl, rfl, _, _⟩ := ret_ok e2
        have := hk ρ1 a1 w1 l1 l2 l3 l4
        rw [hx] at this
        exact this
      | ret =>
        rw [hx] at e2
        obtain ⟨rfl, rfl, _, _⟩ := ret_ok e2
        have := hk ρ1 a1 w1 l1 l2 l3 l4
        rw [hx] at this
        exact this
      | goto i =>
        rw [hx] at e2
        obtain ⟨rfl, rfl, _, _⟩ := ret_ok e2
        have := hk ρ1 a1 w1 l1 l2 l3 l4
        rw [hx] at this
        exact this
    | _ => exact last e rfl
theorem piece_snd [S : Sy] {P : Program} {l : Dc → Ora} {n N m : Nat} {c : Code} {s : St} {fn : Func} {rs : List Tm} {K : List (Ex × St)} (hN : NamesOK P) (hm : P.follows .mixedOrders = true) {B : Nat} (hl : OraOK P B l) {ρ : Pm} {D : List Deferred} {act : Act} {w : World} {Q : Exit → Act → World → Prop} (hr : Rep B ρ s.hp w) (hf : Frm D ρ N s.fr act) :
    ∀ (T : Trl) (Φ : List (Xp × Bool)), chkP P l n N m c s fn rs K T Φ = true → (∀ p ∈ Φ, p.1.den = .bool p.2) → ∀ lf, T.sel = some lf → Ends P B D N fn rs K ρ w (restQ P Q (dropC m c)) lf → c.wp P Q act w
  | .leaf lf0, Φ, h, hΦ, lf, hlf, hk => by
    letI := dcOf Φ
    haveI := dcOf_ok hΦ
    injection hlf with hlf
    subst hlf
    have h : okL P fn rs K lf0 (@runP (dcOf Φ) P l n N m c s) = true := h
    cases he : @runP (dcOf Φ) P l n N m c s with
    | bad _ => rw [he] at h; cases h
    | ok res h' c' lg' =>
      rw [he] at h
      refine execPre_snd hN hm (hl.loc _ (dcOf_ok hΦ)) (hl.snd _ (dcOf_ok hΦ) ρ) (hl.tab _ (dcOf_ok hΦ) ρ) m c _ _ _ _ _ _ _ _ _ he (Pm.le.refl ρ) hr hf fun ρ' act' w' l1 l2 l3 l4 => ?_
      cases lf0 with
      | «at» k σ r =>
        have h : Option.rec (motive := fun _ => Bool) false (fun p => exB res.x p.1 && (okA σ r p.2.a res.a && (okH σ r p.2.h h' && okR r p.2.h))) (nthL K k) = true := h
        rw [nthL_eq] at h
        cases hp : K[k]? with
        | none => rw [hp] at h; cases h
        | some p =>
          rw [hp] at h
          rw [Bool.and_eq_true, Bool.and_eq_true, Bool.and_eq_true] at h
          obtain ⟨h1, h2, h3, h4⟩ := h
          have hq := hk p hp ρ' act' w' l1 (rep_tpl l2 h3 h4) (frm_tpl l3 h2) l4
          rw [← exB_eq h1] at hq
          exact hq
      | fin e =>
        have h : endL P fn rs e res h' c' = true := h
        unfold endL at h
        rw [Bool.and_eq_true] at h
        obtain ⟨h1, h2⟩ := h
        cases hres : resL P res.a fn.results.toList 0 h' c' [] with
        | bad _ => rw [hres] at h2; cases h2
        | ok m h2' c2' lg2' =>
          rw [hres] at h2
          have h2 : Option.rec (motive := fun _ => Bool) false (fun e' => eqX e' e) (matR rs (oneV m)) = true := h2
          cases hmr : matR rs (oneV m) with
          | none => rw [hmr] at h2; cases h2
          | some e' =>
            rw [hmr] at h2
            obtain ⟨rfl, us, k1, k2⟩ := resL_snd l2 l3 hres
            have hone : ∀ h2' : Heap, oneM m 0 h2' c2' lg2' = .ok (oneV m) h2' c2' lg2' := fun h2' => by
              cases m with
              | nil => rfl
              | cons x m => cases m <;> rfl
            obtain ⟨_, k3⟩ := oneM_snd (hone .leaf) k2
            have hmv := matR_rp hmr k3
            rw [eqX_is h2] at hmv
            have hq := hk act' w' _ ρ'.fz l3.defers (results_run k1) hmv l2.frz l2.low l1.fz l4
            have hx2 := exB_eq h1
            rw [hx2]
            exact hq
  | .br c0 t f2, Φ, h, hΦ, lf, hp, hk => by
    have h : (chkP P l n N m c s fn rs K t ((c0, true) :: Φ) && chkP P l n N m c s fn rs K f2 ((c0, false) :: Φ)) = true := h
    rw [Bool.and_eq_true] at h
    unfold Trl.sel at hp
    split at hp
    · rename_i hc
      exact piece_snd hN hm hl hr hf t _ h.1 (fun q hq => by rcases List.mem_cons.1 hq with rfl | hq; exact hc; exact hΦ q hq) lf hp hk
    · rename_i hc
      exact piece_snd hN hm hl hr hf f2 _ h.2 (fun q hq => by rcases List.mem_cons.1 hq with rfl | hq; exact hc; exact hΦ q hq) lf hp hk
    · cases hp
  | .must c0 t, Φ, h, hΦ, lf, hp, hk => by
    have h : chkP P l n N m c s fn rs K t ((c0, true) :: Φ) = true := h
    unfold Trl.sel at hp
    split at hp
    · rename_i hc
      exact piece_snd hN hm hl hr hf t _ h (fun q hq => by rcases List.mem_cons.1 hq with rfl | hq; exact hc; exact hΦ q hq) lf hp hk
    · cases hp
/-- A loop, by what stands ahead of each round; what is measured grows less. -/
theorem loop_wp {P : Program} {α : Type} {I : α → Act → World → Prop} {x : Code} {Q : Exit → Act → World → Prop} (mes : α → Nat) (step : ∀ s a w, I s a w → x.wp P (fun e a' w' => match e with | .normal => ∃ s', mes s' < mes s ∧ I s' a' w' | e => Q e a' w') a w) : ∀ s a w, I s a w → (Code.loop x).wp P Q a w := by
  have key : ∀ m s a w, mes s < m → I s a w → Code.rounds P x Q m a w := by
    intro m
    induction m with
    | zero => intro s a w h; omega
    | succ m ih =>
      intro s a w h hi
      rw [rounds_succ]
      refine Code.wp_mono (fun e a' w' hq => ?_) (step s a w hi)
      cases e with
      | normal =>
        obtain ⟨s', h1, h2⟩ := hq
        exact ih s' a' w' (by omega) h2
      | _ => exact hq
  intro s a w hi
  exact wp_loop_rounds (mes s + 1) (key (mes s + 1) s a w (by omega) hi)
end Go.Proofs.YtdflkikhmngfiaaGreatDoor


/- A loop as a chart of templates: its rounds in plain Lean. -/
namespace Go.Proofs.YtdflkikhmngfiaaGreatDoor
open Go.RowKit
set_option linter.unusedVariables false
set_option linter.unusedSimpArgs false
set_option linter.unusedSectionVars false

/-- Names that lie where they lie. -/
abbrev Fx := Nat → Option (Nat × Nat × Nat)
/-- What stands at a template. -/
def AtN [S : Sy] (X : Fx) (B : Nat) (D : List Deferred) (N : Nat) (F0 : Fz) (w0 : World) (s : St) (env : Nat → PV) (act : Act) (w : World) : Prop :=
  ∃ ρ : Pm, (∀ n p, X n = some p → ρ n = some p) ∧ F0.le ρ.fz ∧ @Rep (S.at env) B ρ s.hp w ∧ @Frm (S.at env) D ρ N s.fr act ∧ Below B w0 w
/-- One round. -/
def nxt [S : Sy] (T : Nat → Trl) (k : Nat) (env : Nat → PV) : Option (Sum (Nat × (Nat → PV)) PV) :=
  match @Trl.sel (S.at env) (T k) with
  | some (.at k' σ _) => some (.inl (k', @envOf (S.at env) σ))
  | some (.fin e) => some (.inr (@Xp.den (S.at env) e))
  | none => none
/-- What a chart's end asks. -/
def EndF [S : Sy] (P : Program) (X : Fx) (B : Nat) (D : List Deferred) (N : Nat) (fn : Func) (rs : List Tm) (K : List (Ex × St)) (F0 : Fz) (w0 : World) (Q : Exit → Act → World → Prop) : Sum (Nat × (Nat → PV)) PV → Prop
  | .inl c => ∀ p, K[c.1]? = some p → ∀ act w, AtN X B D N F0 w0 p.2 c.2 act w → Q p.1.out act w
  | .inr p => ∀ act w v F', act.defers = D → (results fn act.tmps).run P w = .ok v w → resOK F' rs p v → (∀ b i u, F' b i = some u → w.cell? ⟨b, i, none⟩ = some u) → (∀ b i u, b < B → F' b i = some u → S.low b i = some u) → F0.le F' → Below B w0 w → Q .ret act w
theorem restQ_none {P : Program} {Q : Exit → Act → World → Prop} {e : Exit} {a : Act} {w : World} : restQ P Q none e a w = Q e a w := by cases e <;> rfl
end Go.Proofs.YtdflkikhmngfiaaGreatDoor


/- What code does, by templates: pieces, rows of statements, blocks, loops, joined. -/
namespace Go.Proofs.YtdflkikhmngfiaaGreatDoor
open Go.RowKit
set_option linter.unusedVariables false
set_option linter.unusedSimpArgs false
set_option linter.unusedSectionVars false

abbrev Env := Nat → PV
abbrev Outc := Sum (Nat × Env) PV
/-- From a template, by a relation of plain values, to templates or to the function's result. -/
def SpecK (ks : List Nat) [S : Sy] (P : Program) (N : Nat) (fn : Func) (rs : List Tm) (c : Code) (s : St) (K : List (Ex × St)) (R : Env → Outc → Prop) : Prop :=
  ∀ (X : Fx), (∀ n p, X n = some p → n ∈ ks) → ∀ (B : Nat) (D : List Deferred) (F0 : Fz) (w0 : World) (Q : Exit → Act → World → Prop) (env : Env) (out : Outc), R env out → ∀ act w, AtN X B D N F0 w0 s env act w → EndF P X B D N fn rs K F0 w0 Q out → c.wp P Q act w
abbrev Spec [S : Sy] (P : Program) (N : Nat) (fn : Func) (rs : List Tm) (c : Code) (s : St) (K : List (Ex × St)) (R : Env → Outc → Prop) : Prop := SpecK [] P N fn rs c s K R
/-- The tree's ends keep a name's place. -/
noncomputable def Trl.keeps (n : Nat) : Trl → Bool
  | .leaf (.at _ _ r) => Option.rec (motive := fun _ => Bool) false (fun m => Nat.beq m n) (rnm r n)
  | .leaf (.fin _) => true
  | .br _ t f => t.keeps n && f.keeps n
  | .must _ t => t.keeps n
noncomputable def keepT (ks : List Nat) (T : Trl) : Bool := ks.all fun n => T.keeps n
theorem keeps_sel [S : Sy] {n : Nat} : ∀ {T : Trl}, T.keeps n = true → ∀ {k σ r}, T.sel = some (.at k σ r) → rnm r n = some n
  | .leaf (.at k' σ' r'), h, k, σ, r, e => by
    injection e with e
    injection e with _ _ e
    subst e
    have h : Option.rec (motive := fun _ => Bool) false (fun m => Nat.beq m n) (rnm r' n) = true := h
    cases hm : rnm r' n with
    | none => rw [hm] at h; cases h
    | some m => rw [hm] at h; rw [Nat.eq_of_beq_eq_true h]
  | .leaf (.fin e2), h, k, σ, r, e => by injection e with e; cases e
  | .br c t f, h, k, σ, r, e => by
    have h : (t.keeps n && f.keeps n) = true := h
    rw [Bool.and_eq_true] at h
    unfold Trl.sel at e
    split at e
    · exact keeps_sel h.1 e
    · exact keeps_sel h.2 e
    · cases e
  | .must c t, h, k, σ, r, e => by
    unfold Trl.sel at e
    split at e
    · exact keeps_sel (T := t) h e
    · cases e
/-- On from one of a piece's ends. -/
def OnK (ks : List Nat) [S : Sy] (P : Program) (N : Nat) (fn : Func) (rs : List Tm) (d : Option Code) (p : Ex × St) (K : List (Ex × St)) (R : Env → Outc → Prop) : Prop :=
  match p.1, d with
  | .normal, some d => SpecK ks P N fn rs d p.2 K R
  | _, _ => ∃ j, K[j]? = some p ∧ ∀ env out, R env out → out = .inl (j, env)
abbrev On [S : Sy] (P : Program) (N : Nat) (fn : Func) (rs : List Tm) (d : Option Code) (p : Ex × St) (K : List (Ex × St)) (R : Env → Outc → Prop) : Prop := OnK [] P N fn rs d p K R
/-- Two relations, one behind the other. -/
def relThen (R1 : Env → Outc → Prop) (R : Nat → Env → Outc → Prop) (env : Env) (out : Outc) : Prop :=
  ∃ o, R1 env o ∧ match o with | .inl c => R c.1 c.2 out | .inr v => out = .inr v
def selR [S : Sy] (T : Trl) (env : Env) (out : Outc) : Prop := nxt (fun _ => T) 0 env = some out
section
variable {ks : List Nat} [S : Sy] {P : Program} {N : Nat} {fn : Func} {rs : List Tm}
theorem spec_mono {c : Code} {s : St} {K : List (Ex × St)} {R R' : Env → Outc → Prop} (h : SpecK ks P N fn rs c s K R) (hr : ∀ env out, R' env out → R env out) : SpecK ks P N fn rs c s K R' :=
  fun X hX B D F0 w0 Q env out ho => h X hX B D F0 w0 Q env out (hr _ _ ho)
/-- So many statements, then the others. -/
theorem spec_piece {l : Dc → Ora} {n m : Nat} {c : Code} {s : St} {K1 K : List (Ex × St)} {T : Trl} {R : Nat → Env → Outc → Prop} (hN : NamesOK P) (hm : P.follows .mixedOrders = true) (hl : ∀ env B, @OraOK (S.at env) P B l)
    (hc : chkP P l n N m c s fn rs K1 T [] = true) (hk : ∀ k p, K1[k]? = some p → OnK ks P N fn rs (dropC m c) p K (R k)) (hks : keepT ks T = true := by rfl) : SpecK ks P N fn rs c s K (relThen (selR T) R) := by
  intro X hX B D F0 w0 Q env out ⟨o, ho, hR⟩ act w ⟨ρ, h0, h1, h2, h3, h4⟩ hq
  unfold selR nxt at ho
  cases hs : @Trl.sel (S.at env) T with
  | none => rw [hs] at ho; cases ho
  | some lf =>
    rw [hs] at ho
    refine @piece_snd (S.at env) P l n N m c s fn rs K1 hN hm B (hl env B) ρ D act w _ h2 h3 T [] hc (fun _ h => by cases h) lf hs ?_
    cases lf with
    | «at» k σ r =>
      injection ho with ho
      subst ho
      intro p hp ρ' act' w' hle hrep hfrm hbel
      have hat' : AtN X B D N F0 w0 p.2 (@envOf (S.at env) σ) act' w' := ⟨rnP r ρ', fun n q hq2 => (rnP_at (@keeps_sel (S.at env) n T (List.all_eq_true.1 hks n (hX n q hq2)) k σ r hs)).trans (hle.nm n q (h0 n q hq2)), fun b i u hu => hle.fz b i u (h1 b i u hu), hrep, hfrm, h4.trans hbel⟩
      have hR : R k (@envOf (S.at env) σ) out := hR
      have hon := hk k p hp
      obtain ⟨e, s'⟩ := p
      have pass : (∃ j, K[j]? = some (e, s') ∧ ∀ env out, R k env out → out = .inl (j, env)) → Q e.out act' w' := by
        rintro ⟨j, hj, hout⟩
        have := hout _ _ hR
        subst this
        exact hq _ hj act' w' hat'
      cases hd : dropC m c with
      | none =>
        rw [hd] at hon
        rw [restQ_none]
        refine pass ?_
        cases e <;> exact hon
      | some d =>
        rw [hd] at hon
        cases e with
        | normal => exact (show SpecK ks P N fn rs d s' K (R k) from hon) X hX B D F0 w0 Q _ out hR act' w' hat' hq
        | _ => exact pass hon
    | fin e =>
      injection ho with ho
      subst ho
      have hR : out = .inr _ := hR
      subst hR
      intro act' w' v F' g1 g2 g3 g4 g5 g6 g7
      have := hq act' w' v F' g1 g2 g3 g4 g5 (fun b i u hu => g6 b i u (h1 b i u hu)) (h4.trans g7)
      cases hd : dropC m c with
      | none => exact this
      | some d => exact this
theorem spec_seq {c d : Code} {s : St} {K1 K : List (Ex × St)} {R1 : Env → Outc → Prop} {R : Nat → Env → Outc → Prop} (h : SpecK ks P N fn rs c s K1 R1) (hk : ∀ k p, K1[k]? = some p → OnK ks P N fn rs (some d) p K (R k)) : SpecK ks P N fn rs (.seq c d) s K (relThen R1 R) := by
  intro X hX B D F0 w0 Q env out ⟨o, ho, hR⟩ act w hat hq
  refine wp_seq (h X hX B D F0 w0 _ env o ho act w hat ?_)
  cases o with
  | inl c =>
    intro p hp act' w' hat'
    have hon := hk c.1 p hp
    have hR : R c.1 c.2 out := hR
    obtain ⟨e, s'⟩ := p
    cases e with
    | normal => exact (show SpecK ks P N fn rs d s' K (R c.1) from hon) X hX B D F0 w0 Q _ out hR act' w' hat' hq
    | _ =>
      obtain ⟨j, hj, hout⟩ := (show ∃ j, K[j]? = some _ ∧ ∀ env out, R c.1 env out → out = .inl (j, env) from hon)
      have := hout _ _ hR
      subst this
      exact hq _ hj act' w' hat'
  | inr v =>
    have hR : out = .inr v := hR
    subst hR
    exact hq
/-- A block: who leaves it goes on behind it. -/
def exIn (b : Nat) (e : Ex) : Ex := match e with
  | .exit i => if i = b then .normal else .exit i
  | e => e
theorem spec_block {b : Nat} {c : Code} {s : St} {K : List (Ex × St)} {R : Env → Outc → Prop} (h : SpecK ks P N fn rs c s K R) : SpecK ks P N fn rs (.block b c) s (K.map fun p => (exIn b p.1, p.2)) R := by
  intro X hX B D F0 w0 Q env out ho act w hat hq
  refine wp_block (h X hX B D F0 w0 _ env out ho act w hat ?_)
  cases out with
  | inl c =>
    intro p hp act' w' hat'
    have := hq (exIn b p.1, p.2) (by simp [hp]) act' w' hat'
    obtain ⟨e, s'⟩ := p
    cases e with
    | exit i =>
      by_cases hi : i = b
      · subst hi
        have h2 : exIn i (.exit i) = .normal := by simp [exIn]
        rw [h2] at this
        simpa [Exit.inBlock, Ex.out] using this
      · have h2 : exIn b (.exit i) = .exit i := by simp [exIn, hi]
        rw [h2] at this
        simpa [Exit.inBlock, Ex.out, hi] using this
    | _ => exact this
  | inr v =>
    intro act' w' v' F' g1 g2 g3 g4 g5 g6 g7
    exact hq act' w' v' F' g1 g2 g3 g4 g5 g6 g7
/-- A loop's rounds. -/
inductive Rounds (K : List (Ex × St)) (R : Nat → Env → Outc → Prop) : Nat → Env → Outc → Prop
  | out {k env s e} (h : K[k]? = some (e, s)) (hne : e ≠ .normal) : Rounds K R k env (.inl (k, env))
  | fin {k env s v} (h : K[k]? = some (.normal, s)) (hr : R k env (.inr v)) : Rounds K R k env (.inr v)
  | more {k env s k' env' out} (h : K[k]? = some (.normal, s)) (hr : R k env (.inl (k', env'))) (ht : Rounds K R k' env' out) : Rounds K R k env out
theorem spec_loop {x : Code} {K : List (Ex × St)} {R : Nat → Env → Outc → Prop} (h : ∀ k s, K[k]? = some (.normal, s) → SpecK ks P N fn rs x s K (R k)) {k : Nat} {s : St} (hk : K[k]? = some (.normal, s)) : SpecK ks P N fn rs (.loop x) s K (Rounds K R k) := by
  intro X hX B D F0 w0 Q env out ho act w hat hq
  have key : ∃ n, ∀ s, K[k]? = some (.normal, s) → ∀ act w, AtN X B D N F0 w0 s env act w → EndF P X B D N fn rs K F0 w0 Q out → Code.rounds P x Q n act w := by
    clear hat hk hq
    induction ho with
    | out h1 hne => exact ⟨0, fun s hs => by rw [h1] at hs; injection hs with hs; exact absurd (congrArg Prod.fst hs) hne⟩
    | @fin k env s v h1 hr =>
      refine ⟨1, fun s' hs act w hat hq => ?_⟩
      rw [rounds_succ]
      exact h k s' hs X hX B D F0 w0 _ env (.inr v) hr act w hat hq
    | @more k env s k' env' out h1 hr ht ih =>
      obtain ⟨n, ih⟩ := ih
      refine ⟨n + 1, fun s' hs act w hat hq => ?_⟩
      rw [rounds_succ]
      refine h k s' hs X hX B D F0 w0 _ env (.inl (k', env')) hr act w hat ?_
      intro p hp act' w' hat'
      obtain ⟨e, sp⟩ := p
      cases e with
      | normal => exact ih sp hp act' w' hat' hq
      | _ =>
        cases ht with
        | out h2 hne => exact hq _ hp act' w' hat'
        | fin h2 _ => exact absurd (h2.symm.trans hp) (fun hh => by cases hh)
        | more h2 _ _ => exact absurd (h2.symm.trans hp) (fun hh => by cases hh)
  obtain ⟨n, hn⟩ := key
  exact wp_loop_rounds n (hn s hk act w hat hq)
end
end Go.Proofs.YtdflkikhmngfiaaGreatDoor


/- A function, by what its code does from template to template. -/
namespace Go.Proofs.YtdflkikhmngfiaaGreatDoor
open Go.RowKit
set_option linter.unusedVariables false
set_option linter.unusedSimpArgs false
set_option linter.unusedSectionVars false

noncomputable def entA (l : List Tm) : Nat → List (Nat × AV) := List.rec (motive := fun _ => Nat → List (Nat × AV)) (fun _ => []) (fun t _ ih j => (j, mkT t (.var j)) :: ih (Nat.succ j)) l
/-- Where a function begins. -/
noncomputable def entS (l : List Tm) : St := ⟨entA l 0, [], 0⟩
def envL (ps : List PV) (i : Nat) : PV := match ps[i]? with
  | some p => p
  | none => .bool false
section
variable [S : Sy]
theorem entA_at {ρ : Pm} : ∀ {l : List Tm} {j : Nat} {m : List Value}, AV.rps ρ (mkA l j) m → ∀ {t : Nat} {x : AV}, (t, x) ∈ entA l j → j ≤ t ∧ ∃ v, m[t - j]? = some v ∧ x.rp ρ v
  | [], j, m, h, t, x, hx => by cases hx
  | tm :: l, j, m, h, t, x, hx => by
    obtain ⟨y, m', rfl, h1, h2⟩ := rps_cons.1 (show AV.rps ρ (mkT tm (.var j) :: mkA l (Nat.succ j)) m from h)
    have hx : (t, x) ∈ (j, mkT tm (.var j)) :: entA l (Nat.succ j) := hx
    rcases List.mem_cons.1 hx with e | e
    · injection e with e1 e2
      subst e1 e2
      exact ⟨Nat.le_refl _, y, by simp, h1⟩
    · obtain ⟨h3, v, h4, h5⟩ := entA_at h2 e
      have h3 : j + 1 ≤ t := h3
      refine ⟨by omega, v, ?_, h5⟩
      rw [show t - j = (t - (j + 1)) + 1 by omega]
      simpa using h4
theorem spec_fn {P : Program} {f : FuncId} {fn : Func} {c : Code} {ats rs : List Tm} {R : Env → Outc → Prop} (hfn : P.funcs[f]? = some fn) (hb : fn.body = some c) (hs : Spec P fn.ntmps fn rs c (entS ats) [] R) {F : Fz} {W : World} {ps : List PV} {vs : Array Value} (hn : vs.size ≤ fn.ntmps)
    (hF : ∀ b i v, F b i = some v → W.cell? ⟨b, i, none⟩ = some v) (hlow : ∀ b i v, F b i = some v ↔ Sy.low b i = some v) (hi : Sy.inv W.heap.size W) (hgh : ∀ b o, Sy.gh b = some o → W.heap[b]? = some o) (ha : argsOK F ats ps vs.toList) {p : PV} (hR : R (envL ps) (.inr p)) :
    Calls P f vs W fun e w' => ∃ v, e = .returned v ∧ resOK (growF F W w') rs p v ∧ Below W.heap.size W w' := by
  refine calls_of_wp hfn hb ?_
  letI : Dc := ⟨fun _ => none⟩
  have hdc : @DcOK (S.at (envL ps)) _ := @DcOK.mk (S.at (envL ps)) _ (fun _ _ h => by cases h)
  refine hs (fun _ => none) (fun _ _ h => (by cases h)) W.heap.size [] F W _ (envL ps) (.inr p) hR _ W ⟨⟨fun _ => none, F⟩, fun _ _ h => (by cases h), fun _ _ _ h => h, ?_, ?_, Below.refl _ _⟩ ?_
  · exact @Rep.start (S.at (envL ps)) _ hdc W hi F hF (fun b i v h => (hlow b i v).1 h) hgh
  · refine @Frm.mk (S.at (envL ps)) [] _ fn.ntmps _ _ rfl ?_ (fun t x hx => ?_)
    · show (vs ++ Array.replicate (fn.ntmps - vs.size) undef).size = fn.ntmps
      rw [Array.size_append, Array.size_replicate]
      omega
    have hm := putL_some hx
    have hv : @AV.rps (S.at (envL ps)) ⟨fun _ => none, F⟩ (mkA ats 0) vs.toList := @mkA_rp (S.at (envL ps)) _ hdc ⟨fun _ => none, F⟩ ats 0 ps vs.toList (fun i q hq => by
      rw [Nat.zero_add]
      show envL ps i = q
      unfold envL
      rw [hq]) ha
    obtain ⟨_, v, h1, h2⟩ := @entA_at (S.at (envL ps)) _ ats 0 _ hv t x hm
    refine ⟨v, ?_, h2⟩
    rw [Nat.sub_zero, Array.getElem?_toList] at h1
    have hlt := (Array.getElem?_eq_some_iff.1 h1).1
    show (vs ++ Array.replicate (fn.ntmps - vs.size) undef)[t]? = some v
    rw [Array.getElem?_append, if_pos hlt]
    exact h1
  · intro act w v F' g1 g2 g3 g4 g5 g6 g7
    refine ⟨g1, v, g2, v, rfl, resOK_mono (fun b i u hu => ?_) g3, g7⟩
    show (if W.heap.size ≤ b then w.cell? ⟨b, i, none⟩ else F b i) = some u
    by_cases hb : W.heap.size ≤ b
    · rw [if_pos hb]; exact g4 b i u hu
    · rw [if_neg hb]; exact (hlow b i u).2 (g5 b i u (by omega) hu)
end
end Go.Proofs.YtdflkikhmngfiaaGreatDoor

