/- Pieces of code, from a template to templates, by decisions; loops. -/
import Derived.Test.YtdkgckgpdogimaaGreatDoorC38
import Derived.LoopN
namespace Go.Proofs.YtdkgckgpdogimaaGreatDoor
open Go.RowKit
set_option linter.unusedVariables false
set_option linter.unusedSimpArgs false
set_option linter.unusedSectionVars false

/-- How a piece ends: in a state of a template, or with the function's result. -/
inductive Lf where
  | at (k : Nat) (σ : List Xp) (r : List (Nat × Nat))
  | fin (e : Xp)
inductive Trl where
  | leaf (l : Lf)
  | br (c : Xp) (t f : Trl)
  | must (c : Xp) (t : Trl)
def Trl.sel [Sy] : Trl → Option Lf
  | .leaf l => some l
  | .br c t f => match c.den with
    | .bool true => t.sel
    | .bool false => f.sel
    | _ => none
  | .must c t => match c.den with
    | .bool true => t.sel
    | _ => none
def exB (a b : Ex) : Bool := match a, b with
  | .normal, .normal => true
  | .ret, .ret => true
  | .exit i, .exit j => Nat.beq i j
  | _, _ => false
theorem exB_eq {a b : Ex} (h : exB a b = true) : a = b := by
  cases a <;> cases b <;> first | rfl | cases h | (rw [Nat.eq_of_beq_eq_true h])
def oneV (l : List AV) : AV := match l with
  | [x] => x
  | l => .tup l
noncomputable def endL (P : Program) (fn : Func) (rs : List Tm) (e : Xp) (res : CR) (h : Heap) (c : Nat) : Bool :=
  exB res.x .ret && R.rec (motive := fun _ => Bool) (fun l _ _ _ => Option.rec (motive := fun _ => Bool) false (fun e' => eqX e' e) (matR rs (oneV l))) (fun _ => false) (resL P res.a fn.results.toList 0 h c [])
noncomputable def okL (P : Program) (fn : Func) (rs : List Tm) (K : List (Ex × St)) (l : Lf) (res : R CR) : Bool :=
  R.rec (motive := fun _ => Bool) (fun res h c _ => match l with
    | .at k σ r => Option.rec (motive := fun _ => Bool) false (fun p => exB res.x p.1 && (okA σ r p.2.a res.a && (okH σ r p.2.h h && okR r p.2.h))) (nthL K k)
    | .fin e => endL P fn rs e res h c) (fun _ => false) res
/-- So many statements of a row of them. -/
noncomputable def execPre [Dc] (P : Program) (ora : Ora) (n N : Nat) (m : Nat) : Code → Tr AV → M CR :=
  Nat.rec (motive := fun _ => Code → Tr AV → M CR) (fun c a => ret ⟨.normal, a⟩) (fun _ ih c a => match c with
    | .seq x y => bnd (exec P (fun _ => none) ora n N x a) fun r => seqM (ih y) r
    | c => exec P (fun _ => none) ora n N c a) m
/-- What is left behind them. -/
def dropC (m : Nat) : Code → Option Code :=
  Nat.rec (motive := fun _ => Code → Option Code) (fun c => some c) (fun _ ih c => match c with
    | .seq _ y => ih y
    | _ => none) m
def restQ (P : Program) (Q : Exit → Act → World → Prop) (d : Option Code) (e : Exit) (a : Act) (w : World) : Prop := match e, d with
  | .normal, some d => d.wp P Q a w
  | e, _ => Q e a w
noncomputable def runP [d : Dc] (P : Program) (ora : Dc → Ora) (n N : Nat) (m : Nat) (c : Code) (s : St) : R CR := execPre P (ora d) n N m c s.fr 0 s.hp s.c []
noncomputable def chkP (P : Program) (l : Dc → Ora) (n N m : Nat) (c : Code) (s : St) (fn : Func) (rs : List Tm) (K : List (Ex × St)) (T : Trl) : List (Xp × Bool) → Bool :=
  Trl.rec (motive := fun _ => List (Xp × Bool) → Bool) (fun e Φ => okL P fn rs K e (@runP (dcOf Φ) P l n N m c s)) (fun c _ _ it jf Φ => it ((c, true) :: Φ) && jf ((c, false) :: Φ)) (fun c _ it Φ => it ((c, true) :: Φ)) T
/-- What a piece's end says. -/
def Ends [S : Sy] (P : Program) (B : Nat) (D : List Deferred) (N : Nat) (fn : Func) (rs : List Tm) (K : List (Ex × St)) (ρ0 : Pm) (w : World) (Q : Exit → Act → World → Prop) (l : Lf) : Prop :=
  match l with
  | .at k σ r => ∀ p, K[k]? = some p → ∀ ρ act w', ρ0.le ρ → @Rep (S.at (envOf σ)) B (rnP r ρ) p.2.hp w' → @Frm (S.at (envOf σ)) D (rnP r ρ) N p.2.fr act → Below B w w' → Q p.1.out act w'
  | .fin e => ∀ act w' v F', act.defers = D → (results fn act.tmps).run P w' = .ok v w' → resOK F' rs e.den v → (∀ b i u, F' b i = some u → w'.cell? ⟨b, i, none⟩ = some u) → (∀ b i u, b < B → F' b i = some u → S.low b i = some u) → ρ0.fz.le F' → Below B w w' → Q .ret act w'
/-- What is told of functions and operations is so, whatever is decided. -/
structure OraOK [S : Sy] (P : Program) (B : Nat) (ora : Dc → Ora) : Prop where
  loc : ∀ d : Dc, @DcOK S d → OraLoc (ora d)
  snd : ∀ d : Dc, @DcOK S d → ∀ ρ0, OraSnd P B ρ0 (ora d)
  tab : ∀ d : Dc, @DcOK S d → ∀ ρ0, TabSnd P B ρ0 (ora d).tab
/-- Functions by contract. -/
noncomputable def oraFs (P : Program) (l : List Fs) (d : Dc) : Ora := ⟨@oraF d l, @symTab d P⟩
theorem oraFs_ok [S : Sy] {P : Program} {B : Nat} {l : List Fs} (hl : ∀ s ∈ l, FnOK P s) : OraOK P B (oraFs P l) :=
  ⟨fun d hd => @oraF_loc S d hd l _, fun d hd ρ0 => @oraF_snd S d hd P B ρ0 l _ hl, fun d hd ρ0 => @symTab_snd S d hd P B ρ0⟩
theorem execPre_snd [Sy] [Dc] [DcOK] {P : Program} {B : Nat} {ρ0 : Pm} {ora : Ora} {n N : Nat} (hN : NamesOK P) (hm : P.follows .mixedOrders = true) (hl : OraLoc ora) (ho : OraSnd P B ρ0 ora) (ht : TabSnd P B ρ0 ora.tab) {D : List Deferred} : ∀ (m : Nat) (c : Code) (a : Tr AV) (lo : Nat) (h : Heap) (c0 : Nat) (lg : List Ev) (r : CR) (h' : Heap) (c' : Nat) (lg' : List Ev),
    execPre P ora n N m c a lo h c0 lg = .ok r h' c' lg' → ∀ {ρ : Pm} {act : Act} {w : World} {Q : Exit → Act → World → Prop}, ρ0.le ρ → Rep B ρ h w → Frm D ρ N a act →
    (∀ ρ' act' w', ρ.le ρ' → Rep B ρ' h' w' → Frm D ρ' N r.a act' → Below B w w' → restQ P Q (dropC m c) r.x.out act' w') → c.wp P Q act w
  | 0, c, a, lo, h, c0, lg, r, h', c', lg', e, ρ, act, w, Q, hle, hr, hf, hk => by
    obtain ⟨rfl, rfl, _, _⟩ := ret_ok (show ret (⟨.normal, a⟩ : CR) lo h c0 lg = .ok r h' c' lg' from e)
    exact hk ρ act w (Pm.le.refl ρ) hr hf (Below.refl _ _)
  | m + 1, c, a, lo, h, c0, lg, r, h', c', lg', e, ρ, act, w, Q, hle, hr, hf, hk => by
    have last : exec P (fun _ => none) ora n N c a lo h c0 lg = .ok r h' c' lg' → dropC (m + 1) c = none → c.wp P Q act w := fun e hd => by
      refine (exec_snd noGlob hN hm hl ho ht n N c _ _ _ _ _ _ _ _ _ e D ρ act w Q hle hr hf fun ρ' act' w' l1 l2 l3 l4 => ?_).1
      have := hk ρ' act' w' l1 l2 l3 l4
      rw [hd] at this
      unfold restQ at this
      split at this
      · rename_i hc; cases hc
      · exact this
    cases c with
    | seq x y =>
      obtain ⟨r1, h1, c1, lg1, e1, e2⟩ := bnd_ok (show bnd (exec P (fun _ => none) ora n N x a) (fun r => seqM (execPre P ora n N m y) r) lo h c0 lg = .ok r h' c' lg' from e)
      refine wp_seq (exec_snd noGlob hN hm hl ho ht n N x _ _ _ _ _ _ _ _ _ e1 D ρ act w _ hle hr hf fun ρ1 a1 w1 l1 l2 l3 l4 => ?_).1
      unfold seqM at e2
      cases hx : r1.x with
      | normal =>
        rw [hx] at e2
        exact execPre_snd hN hm hl ho ht m y _ _ _ _ _ _ _ _ _ e2 (hle.trans l1) l2 l3 fun ρ2 a2 w2 k1 k2 k3 k4 => hk ρ2 a2 w2 (l1.trans k1) k2 k3 (l4.trans k4)
      | exit i =>
        rw [hx] at e2
        obtain ⟨rfl, rfl, _, _⟩ := ret_ok e2
        have := hk ρ1 a1 w1 l1 l2 l3 l4
        rw [hx] at this
        exact this
      | ret =>
        rw [hx] at e2
        obtain ⟨rfl, rfl, _, _⟩ := ret_ok e2
        have := hk ρ1 a1 w1 l1 l2 l3 l4
        rw [hx] at this
        exact this
      | goto i =>
        rw [hx] at e2
        obtain ⟨rfl, rfl, _, _⟩ := ret_ok e2
        have := hk ρ1 a1 w1 l1 l2 l3 l4
        rw [hx] at this
        exact this
    | _ => exact last e rfl
theorem piece_snd [S : Sy] {P : Program} {l : Dc → Ora} {n N m : Nat} {c : Code} {s : St} {fn : Func} {rs : List Tm} {K : List (Ex × St)} (hN : NamesOK P) (hm : P.follows .mixedOrders = true) {B : Nat} (hl : OraOK P B l) {ρ : Pm} {D : List Deferred} {act : Act} {w : World} {Q : Exit → Act → World → Prop} (hr : Rep B ρ s.hp w) (hf : Frm D ρ N s.fr act) :
    ∀ (T : Trl) (Φ : List (Xp × Bool)), chkP P l n N m c s fn rs K T Φ = true → (∀ p ∈ Φ, p.1.den = .bool p.2) → ∀ lf, T.sel = some lf → Ends P B D N fn rs K ρ w (restQ P Q (dropC m c)) lf → c.wp P Q act w
  | .leaf lf0, Φ, h, hΦ, lf, hlf, hk => by
    letI := dcOf Φ
    haveI := dcOf_ok hΦ
    injection hlf with hlf
    subst hlf
    have h : okL P fn rs K lf0 (@runP (dcOf Φ) P l n N m c s) = true := h
    cases he : @runP (dcOf Φ) P l n N m c s with
    | bad _ => rw [he] at h; cases h
    | ok res h' c' lg' =>
      rw [he] at h
      refine execPre_snd hN hm (hl.loc _ (dcOf_ok hΦ)) (hl.snd _ (dcOf_ok hΦ) ρ) (hl.tab _ (dcOf_ok hΦ) ρ) m c _ _ _ _ _ _ _ _ _ he (Pm.le.refl ρ) hr hf fun ρ' act' w' l1 l2 l3 l4 => ?_
      cases lf0 with
      | «at» k σ r =>
        have h : Option.rec (motive := fun _ => Bool) false (fun p => exB res.x p.1 && (okA σ r p.2.a res.a && (okH σ r p.2.h h' && okR r p.2.h))) (nthL K k) = true := h
        rw [nthL_eq] at h
        cases hp : K[k]? with
        | none => rw [hp] at h; cases h
        | some p =>
          rw [hp] at h
          rw [Bool.and_eq_true, Bool.and_eq_true, Bool.and_eq_true] at h
          obtain ⟨h1, h2, h3, h4⟩ := h
          have hq := hk p hp ρ' act' w' l1 (rep_tpl l2 h3 h4) (frm_tpl l3 h2) l4
          rw [← exB_eq h1] at hq
          exact hq
      | fin e =>
        have h : endL P fn rs e res h' c' = true := h
        unfold endL at h
        rw [Bool.and_eq_true] at h
        obtain ⟨h1, h2⟩ := h
        cases hres : resL P res.a fn.results.toList 0 h' c' [] with
        | bad _ => rw [hres] at h2; cases h2
        | ok m h2' c2' lg2' =>
          rw [hres] at h2
          have h2 : Option.rec (motive := fun _ => Bool) false (fun e' => eqX e' e) (matR rs (oneV m)) = true := h2
          cases hmr : matR rs (oneV m) with
          | none => rw [hmr] at h2; cases h2
          | some e' =>
            rw [hmr] at h2
            obtain ⟨rfl, us, k1, k2⟩ := resL_snd l2 l3 hres
            have hone : ∀ h2' : Heap, oneM m 0 h2' c2' lg2' = .ok (oneV m) h2' c2' lg2' := fun h2' => by
              cases m with
              | nil => rfl
              | cons x m => cases m <;> rfl
            obtain ⟨_, k3⟩ := oneM_snd (hone .leaf) k2
            have hmv := matR_rp hmr k3
            rw [eqX_is h2] at hmv
            have hq := hk act' w' _ ρ'.fz l3.defers (results_run k1) hmv l2.frz l2.low l1.fz l4
            have hx2 := exB_eq h1
            rw [hx2]
            exact hq
  | .br c0 t f2, Φ, h, hΦ, lf, hp, hk => by
    have h : (chkP P l n N m c s fn rs K t ((c0, true) :: Φ) && chkP P l n N m c s fn rs K f2 ((c0, false) :: Φ)) = true := h
    rw [Bool.and_eq_true] at h
    unfold Trl.sel at hp
    split at hp
    · rename_i hc
      exact piece_snd hN hm hl hr hf t _ h.1 (fun q hq => by rcases List.mem_cons.1 hq with rfl | hq; exact hc; exact hΦ q hq) lf hp hk
    · rename_i hc
      exact piece_snd hN hm hl hr hf f2 _ h.2 (fun q hq => by rcases List.mem_cons.1 hq with rfl | hq; exact hc; exact hΦ q hq) lf hp hk
    · cases hp
  | .must c0 t, Φ, h, hΦ, lf, hp, hk => by
    have h : chkP P l n N m c s fn rs K t ((c0, true) :: Φ) = true := h
    unfold Trl.sel at hp
    split at hp
    · rename_i hc
      exact piece_snd hN hm hl hr hf t _ h (fun q hq => by rcases List.mem_cons.1 hq with rfl | hq; exact hc; exact hΦ q hq) lf hp hk
    · cases hp
/-- A loop, by what stands ahead of each round; what is measured grows less. -/
theorem loop_wp {P : Program} {α : Type} {I : α → Act → World → Prop} {x : Code} {Q : Exit → Act → World → Prop} (mes : α → Nat) (step : ∀ s a w, I s a w → x.wp P (fun e a' w' => match e with | .normal => ∃ s', mes s' < mes s ∧ I s' a' w' | e => Q e a' w') a w) : ∀ s a w, I s a w → (Code.loop x).wp P Q a w := by
  have key : ∀ m s a w, mes s < m → I s a w → Code.rounds P x Q m a w := by
    intro m
    induction m with
    | zero => intro s a w h; omega
    | succ m ih =>
      intro s a w h hi
      rw [rounds_succ]
      refine Code.wp_mono (fun e a' w' hq => ?_) (step s a w hi)
      cases e with
      | normal =>
        obtain ⟨s', h1, h2⟩ := hq
        exact ih s' a' w' (by omega) h2
      | _ => exact hq
  intro s a w hi
  exact wp_loop_rounds (mes s + 1) (key (mes s + 1) s a w (by omega) hi)
end Go.Proofs.YtdkgckgpdogimaaGreatDoor

