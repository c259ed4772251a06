/- EyLp · EyLq: joined by a program, for a claim has at most 60 files. -/
import Derived.Test.YtdflkikhmngfiaaGreatDoorZ21
/- Loops with heads and exits; rows joined; a function out of its body. -/
namespace Go.Proofs.YtdflkikhmngfiaaGreatDoor
open Go.RowKit
set_option linter.unusedVariables false
set_option linter.unusedSimpArgs false
set_option linter.unusedSectionVars false

abbrev Rl := Env → Outc → Prop
def headsK (H : List St) : List (Ex × St) := H.map fun s => (.normal, s)
/-- A loop's rounds, from a head to an exit or a result. -/
inductive LoopR (nH nE : Nat) (R : Nat → Rl) : Nat → Env → Outc → Prop
  | out {k env j env'} (hj : j < nE) (hr : R k env (.inl (nH + j, env'))) : LoopR nH nE R k env (.inl (j, env'))
  | fin {k env v} (hr : R k env (.inr v)) : LoopR nH nE R k env (.inr v)
  | more {k env k' env' out} (hk : k' < nH) (hr : R k env (.inl (k', env'))) (ht : LoopR nH nE R k' env' out) : LoopR nH nE R k env out
/-- One behind the other: the first ends go on, the others are told as they are. -/
def ThenR (nL : Nat) (ex : Nat → Nat) (R1 : Rl) (R : Nat → Rl) : Rl := fun env out =>
  ∃ o, R1 env o ∧ match o with
    | .inr v => out = .inr v
    | .inl c => if c.1 < nL then R c.1 c.2 out else out = .inl (ex (c.1 - nL), c.2)
theorem headsK_at {H : List St} {E : List (Ex × St)} {k : Nat} {s : St} (h : H[k]? = some s) : (headsK H ++ E)[k]? = some (.normal, s) := by
  have hk : k < H.length := (List.getElem?_eq_some_iff.1 h).1
  rw [List.getElem?_append_left (by simpa [headsK] using hk)]
  simp [headsK, h]
theorem headsK_tail {H : List St} {E : List (Ex × St)} {j : Nat} : (headsK H ++ E)[H.length + j]? = E[j]? := by
  rw [List.getElem?_append_right (by simp [headsK])]
  simp [headsK]
theorem headsK_lt {H : List St} {E : List (Ex × St)} {k : Nat} {p : Ex × St} (h : (headsK H ++ E)[k]? = some p) : (k < H.length ∧ p.1 = .normal ∧ H[k]? = some p.2) ∨ (H.length ≤ k ∧ E[k - H.length]? = some p) := by
  by_cases hk : k < H.length
  · left
    rw [List.getElem?_append_left (by simpa [headsK] using hk)] at h
    simp [headsK] at h
    obtain ⟨s, h1, h2⟩ := h
    subst h2
    exact ⟨hk, rfl, h1⟩
  · right
    rw [List.getElem?_append_right (by simpa [headsK] using Nat.le_of_not_lt hk)] at h
    exact ⟨by omega, by simpa [headsK] using h⟩
section
variable {ks : List Nat} [S : Sy] {P : Program} {N : Nat} {fn : Func} {rs : List Tm}
theorem spec_loopH {x : Code} {H : List St} {E : List (Ex × St)} {R : Nat → Rl} (hE : ∀ p ∈ E, p.1 ≠ .normal) (h : ∀ k s, H[k]? = some s → SpecK ks P N fn rs x s (headsK H ++ E) (R k)) {k : Nat} {s : St} (hk : H[k]? = some s) : SpecK ks P N fn rs (.loop x) s E (LoopR H.length E.length R k) := by
  intro X hX B D F0 w0 Q env out ho act w hat hq
  have key : ∃ n, ∀ s, H[k]? = some s → ∀ act w, AtN X B D N F0 w0 s env act w → EndF P X B D N fn rs E F0 w0 Q out → Code.rounds P x Q n act w := by
    clear hat hk hq
    induction ho with
    | @out k env j env' hj hr =>
      refine ⟨1, fun s hs act w hat hq => ?_⟩
      rw [rounds_succ]
      refine h k s hs X hX B D F0 w0 _ env _ hr act w hat ?_
      intro p hp act' w' hat'
      have hp : E[j]? = some p := headsK_tail.symm.trans hp
      have hne := hE p (List.mem_of_getElem? hp)
      have := hq p hp act' w' hat'
      obtain ⟨e, sp⟩ := p
      cases e with
      | normal => exact absurd rfl hne
      | _ => exact this
    | @fin k env v hr =>
      refine ⟨1, fun s hs act w hat hq => ?_⟩
      rw [rounds_succ]
      exact h k s hs X hX B D F0 w0 _ env (.inr v) hr act w hat hq
    | @more k env k' env' out hk' hr ht ih =>
      obtain ⟨n, ih⟩ := ih
      refine ⟨n + 1, fun s hs act w hat hq => ?_⟩
      rw [rounds_succ]
      refine h k s hs X hX B D F0 w0 _ env _ hr act w hat ?_
      intro p hp act' w' hat'
      rcases headsK_lt hp with ⟨_, h2, h3⟩ | ⟨h2, _⟩
      · obtain ⟨e, sp⟩ := p
        have h2 : e = .normal := h2
        subst h2
        exact ih sp h3 act' w' hat' hq
      · exact absurd (show k' < H.length from hk') (Nat.not_lt.2 h2)
  obtain ⟨n, hn⟩ := key
  exact wp_loop_rounds n (hn s hk act w hat hq)
/-- A piece to the end of its code. -/
theorem spec_ends {l : Dc → Ora} {n m : Nat} {c : Code} {s : St} {K : List (Ex × St)} {T : Trl} (hN : NamesOK P) (hm : P.follows .mixedOrders = true) (hl : ∀ env B, @OraOK (S.at env) P B l)
    (hc : chkP P l n N m c s fn rs K T [] = true) (hd : dropC m c = none) (hks : keepT ks T = true := by rfl) : SpecK ks P N fn rs c s K (selR T) := by
  refine spec_mono (spec_piece (l := l) (R := fun j e o => o = .inl (j, e)) hN hm hl hc (fun j p hp => ?_) hks) fun env out ho => ?_
  · rw [hd]
    unfold OnK
    split
    · exact (by rename_i hh; cases hh)
    · exact ⟨j, hp, fun env out h => h⟩
  · cases out with
    | inl c => exact ⟨.inl c, ho, rfl⟩
    | inr v => exact ⟨.inr v, ho, rfl⟩
/-- A piece, then the others. -/
theorem spec_then {l : Dc → Ora} {n m : Nat} {c d : Code} {s : St} {L : List St} {E K : List (Ex × St)} {ex : Nat → Nat} {T : Trl} {R : Nat → Rl} (hN : NamesOK P) (hm : P.follows .mixedOrders = true) (hl : ∀ env B, @OraOK (S.at env) P B l)
    (hc : chkP P l n N m c s fn rs (headsK L ++ E) T [] = true) (hd : dropC m c = some d) (hE : ∀ j p, E[j]? = some p → p.1 ≠ .normal ∧ K[ex j]? = some p) (h : ∀ k s', L[k]? = some s' → SpecK ks P N fn rs d s' K (R k)) (hks : keepT ks T = true := by rfl) : SpecK ks P N fn rs c s K (ThenR L.length ex (selR T) R) := by
  refine spec_mono (spec_piece (l := l) (R := fun j e o => if j < L.length then R j e o else o = .inl (ex (j - L.length), e)) hN hm hl hc (fun j p hp => ?_) hks) fun env out ho => ?_
  · rw [hd]
    rcases headsK_lt hp with ⟨h1, h2, h3⟩ | ⟨h1, h2⟩
    · obtain ⟨e, sp⟩ := p
      have h2 : e = .normal := h2
      subst h2
      exact spec_mono (h j sp h3) fun env out ho => (if_pos h1).mp ho
    · obtain ⟨h3, h4⟩ := hE _ _ h2
      obtain ⟨e, sp⟩ := p
      have hno : ¬ j < L.length := by omega
      cases e with
      | normal => exact absurd rfl h3
      | _ => exact ⟨_, h4, fun env out ho => (if_neg hno).mp ho⟩
  · obtain ⟨o, h1, h2⟩ := ho
    refine ⟨o, h1, ?_⟩
    cases o with
    | inl c => exact h2
    | inr v => exact h2
theorem spec_seqH {c d : Code} {s : St} {L : List St} {E K : List (Ex × St)} {ex : Nat → Nat} {R1 : Rl} {R : Nat → Rl} (h1 : SpecK ks P N fn rs c s (headsK L ++ E) R1) (hE : ∀ j p, E[j]? = some p → p.1 ≠ .normal ∧ K[ex j]? = some p) (h : ∀ k s', L[k]? = some s' → SpecK ks P N fn rs d s' K (R k)) : SpecK ks P N fn rs (.seq c d) s K (ThenR L.length ex R1 R) := by
  refine spec_mono (spec_seq (R := fun j e o => if j < L.length then R j e o else o = .inl (ex (j - L.length), e)) h1 fun j p hp => ?_) fun env out ho => ?_
  · rcases headsK_lt hp with ⟨h1, h2, h3⟩ | ⟨h1, h2⟩
    · obtain ⟨e, sp⟩ := p
      have h2 : e = .normal := h2
      subst h2
      exact spec_mono (h j sp h3) fun env out ho => (if_pos h1).mp ho
    · obtain ⟨h3, h4⟩ := hE _ _ h2
      obtain ⟨e, sp⟩ := p
      have hno : ¬ j < L.length := by omega
      cases e with
      | normal => exact absurd rfl h3
      | _ => exact ⟨_, h4, fun env out ho => (if_neg hno).mp ho⟩
  · obtain ⟨o, h1, h2⟩ := ho
    refine ⟨o, h1, ?_⟩
    cases o with
    | inl c => exact h2
    | inr v => exact h2
/-- Ends that leave a block. -/
def exitsK (b : Nat) (H : List St) : List (Ex × St) := H.map fun s => (.exit b, s)
/-- These ends leave something, but not this block. -/
def outOK (b : Nat) (E : List (Ex × St)) : Bool := E.all fun p => match p.1 with | .exit i => !Nat.beq i b | .ret => true | _ => false
theorem outOK_ne {b : Nat} {E : List (Ex × St)} (h : outOK b E = true) : ∀ p ∈ E, p.1 ≠ .normal ∧ exIn b p.1 = p.1 := by
  intro p hp
  have := List.all_eq_true.1 h p hp
  obtain ⟨e, s⟩ := p
  cases e with
  | exit i =>
    have hn : ¬ i = b := by
      rintro rfl
      simp at this
    exact ⟨fun hh => (by cases hh), by simp [exIn, hn]⟩
  | ret => exact ⟨fun hh => (by cases hh), rfl⟩
  | _ => cases this
theorem spec_bl {b : Nat} {x : Code} {Hd H : List St} {E : List (Ex × St)} {R : Nat → Rl} (hE : outOK b E = true) (h : ∀ k s, Hd[k]? = some s → SpecK ks P N fn rs x s (headsK Hd ++ (exitsK b H ++ E)) (R k)) {k : Nat} {s : St} (hk : Hd[k]? = some s) :
    SpecK ks P N fn rs (.block b (.loop x)) s (headsK H ++ E) (LoopR Hd.length (H.length + E.length) R k) := by
  have h1 := spec_loopH (E := exitsK b H ++ E) (fun p hp => by
    rcases List.mem_append.1 hp with hp | hp
    · obtain ⟨s, _, rfl⟩ := List.mem_map.1 hp
      exact fun hh => by cases hh
    · exact (outOK_ne hE p hp).1) h hk
  have h2 := spec_block (b := b) h1
  have e1 : (exitsK b H ++ E).map (fun p => (exIn b p.1, p.2)) = headsK H ++ E := by
    rw [List.map_append]
    congr 1
    · unfold exitsK headsK
      rw [List.map_map]
      refine List.map_congr_left fun s _ => ?_
      simp [exIn]
    · conv => rhs; rw [← List.map_id E]
      refine List.map_congr_left fun p hp => ?_
      obtain ⟨e, s⟩ := p
      simp only [id_eq]
      rw [(outOK_ne hE _ hp).2]
  rw [e1] at h2
  have e2 : (exitsK b H ++ E).length = H.length + E.length := by simp [exitsK]
  rw [e2] at h2
  exact h2
/-- One behind the other: the first ends go on, the others leave. -/
def ThenE (nL nH : Nat) (R1 : Rl) (R : Nat → Rl) : Rl := ThenR nL (fun j => nH + j) R1 R
def outs (E : List (Ex × St)) : Bool := E.all fun p => match p.1 with | .exit _ => true | .ret => true | _ => false
theorem outs_at {H : List St} {E : List (Ex × St)} (h : outs E = true) : ∀ j p, E[j]? = some p → p.1 ≠ .normal ∧ (headsK H ++ E)[H.length + j]? = some p := fun j p hp => by
  refine ⟨?_, headsK_tail.trans hp⟩
  have := List.all_eq_true.1 h p (List.mem_of_getElem? hp)
  obtain ⟨e, s⟩ := p
  cases e with
  | exit i => exact fun hh => (by cases hh)
  | ret => exact fun hh => (by cases hh)
  | _ => cases this
theorem one_at {c : Code} {s0 : St} {K : List (Ex × St)} {R : Rl} (h : SpecK ks P N fn rs c s0 K R) : ∀ (k : Nat) (s' : St), [s0][k]? = some s' → SpecK ks P N fn rs c s' K ((fun _ => R) k) := by
  intro k s' hk
  cases k with
  | zero => injection hk with hk; subst hk; exact h
  | succ k => cases hk
theorem nil_at {c : Code} {K : List (Ex × St)} {R : Nat → Rl} : ∀ (k : Nat) (s' : St), ([] : List St)[k]? = some s' → SpecK ks P N fn rs c s' K (R k) := fun k s' h => by cases h
theorem cons_at {c : Code} {s0 : St} {L : List St} {K : List (Ex × St)} {R : Nat → Rl} (h : SpecK ks P N fn rs c s0 K (R 0)) (h2 : ∀ (k : Nat) (s' : St), L[k]? = some s' → SpecK ks P N fn rs c s' K (R (k + 1))) : ∀ (k : Nat) (s' : St), (s0 :: L)[k]? = some s' → SpecK ks P N fn rs c s' K (R k) := by
  intro k s' hk
  cases k with
  | zero => injection hk with hk; subst hk; exact h
  | succ k => exact h2 k s' hk
theorem map_at {T : Nat → St} {n k : Nat} {s : St} (h : ((List.range n).map T)[k]? = some s) : k < n ∧ s = T k := by
  rw [List.getElem?_map] at h
  by_cases hk : k < n
  · rw [List.getElem?_range hk] at h
    injection h with h
    exact ⟨hk, h.symm⟩
  · rw [List.getElem?_eq_none (by simpa using Nat.le_of_not_lt hk)] at h
    cases h
theorem spec_thenE {l : Dc → Ora} {n m : Nat} {c d : Code} {s : St} {L H : List St} {E : List (Ex × St)} {T : Trl} {R : Nat → Rl} (hN : NamesOK P) (hm : P.follows .mixedOrders = true) (hl : ∀ env B, @OraOK (S.at env) P B l) (hE : outs E = true)
    (hc : chkP P l n N m c s fn rs (headsK L ++ E) T [] = true) (hd : dropC m c = some d) (h : ∀ k s', L[k]? = some s' → SpecK ks P N fn rs d s' (headsK H ++ E) (R k)) (hks : keepT ks T = true := by rfl) : SpecK ks P N fn rs c s (headsK H ++ E) (ThenE L.length H.length (selR T) R) :=
  spec_then hN hm hl hc hd (outs_at hE) h hks
theorem spec_seqE {c d : Code} {s : St} {L H : List St} {E : List (Ex × St)} {R1 : Rl} {R : Nat → Rl} (hE : outs E = true) (h1 : SpecK ks P N fn rs c s (headsK L ++ E) R1) (h : ∀ k s', L[k]? = some s' → SpecK ks P N fn rs d s' (headsK H ++ E) (R k)) : SpecK ks P N fn rs (.seq c d) s (headsK H ++ E) (ThenE L.length H.length R1 R) :=
  spec_seqH h1 (outs_at hE) h
theorem spec_eq {c c' : Code} {s : St} {K : List (Ex × St)} {R : Rl} (e : c = c') (h : SpecK ks P N fn rs c' s K R) : SpecK ks P N fn rs c s K R := e ▸ h
theorem ora_of {l : List Fs} (h : ∀ s ∈ l, FnOK P s) : ∀ env B, @OraOK (S.at env) P B (oraFs P l) := fun env B => @oraFs_ok (S.at env) P B l h
end
noncomputable def seqL (c : Code) : Code := match c with | .seq x _ => x | c => c
noncomputable def seqR (c : Code) : Code := match c with | .seq _ y => y | c => c
noncomputable def condT (c : Code) : Code := match c with | .cond _ x _ => x | c => c
noncomputable def condF (c : Code) : Code := match c with | .cond _ _ y => y | c => c
noncomputable def blkC (c : Code) : Code := match c with | .block _ x => x | c => c
noncomputable def lpC (c : Code) : Code := match c with | .loop x => x | c => c
noncomputable def scpC (c : Code) : Code := match c with | .scope x => x | c => c
/-- Frozen memory in the place of another. -/
@[reducible] def Sy.lo (S : Sy) (F : Fz) : Sy := ⟨S.env, S.fn, F, S.inv, fun _ => none, S.up, S.keep⟩
/-- A function by contract, out of its body. -/
theorem fn_ok [S : Sy] {P : Program} {f : FuncId} {fn : Func} {c : Code} {ats rs : List Tm} {n : Nat} {pre : Option Nat} {R : Fz → Rl} (hfn : P.funcs[f]? = some fn) (hb : fn.body = some c) (hcall : ∀ w vs, (callFunc f vs).run P w = .ok (.enter f vs) w) (hn : Nat.ble ats.length fn.ntmps = true)
    (hs : ∀ F, @Spec (S.lo F) P fn.ntmps fn rs c (entS ats) [] (R F)) (hR : ∀ F ps, ps.length = ats.length → (∀ k, pre = some k → S.fn k ps = .bool true) → R F (envL ps) (.inr (S.fn n ps))) : FnOK P ⟨f, ats, rs, n, pre⟩ := by
  refine ⟨hcall, fun F W ps vs hF hi ha hp => ?_⟩
  have hlen : ∀ (l : List Tm) (ps : List PV) (m : List Value), argsOK F l ps m → ps.length = l.length ∧ m.length = l.length := by
    intro l
    induction l with
    | nil => rintro ps m ⟨rfl, rfl⟩; exact ⟨rfl, rfl⟩
    | cons t l ih =>
      rintro ps m ⟨p, ps', y, m', rfl, rfl, _, h⟩
      obtain ⟨h1, h2⟩ := ih _ _ h
      exact ⟨by simp [h1], by simp [h2]⟩
  obtain ⟨h1, h2⟩ := hlen _ _ _ ha
  exact spec_fn (S := S.lo F) hfn hb (hs F) (by rw [← Array.length_toList, h2]; exact Nat.le_of_ble_eq_true hn) hF (fun _ _ _ => Iff.rfl) hi (fun _ _ h => (by cases h)) ha (hR F ps h1 hp)
/-- The tree's choice, by conditions. -/
theorem sel_br {S : Sy} {c : Xp} {t f : Trl} {b : Bool} (h : c.den = .bool b) : (Trl.br c t f).sel = bif b then t.sel else f.sel := by
  rw [Trl.sel.eq_def]
  simp only [h]
  cases b <;> rfl
theorem sel_must {S : Sy} {c : Xp} {t : Trl} {b : Bool} (h : c.den = .bool b) : (Trl.must c t).sel = bif b then t.sel else none := by
  rw [Trl.sel.eq_def]
  simp only [h]
  cases b <;> rfl
theorem sel_leaf {S : Sy} {l : Lf} : (Trl.leaf l).sel = some l := rfl
end Go.Proofs.YtdflkikhmngfiaaGreatDoor


/- Loops and choices in plain Lean: help for the plain side. -/
namespace Go.Proofs.YtdflkikhmngfiaaGreatDoor
open Go.RowKit
set_option linter.unusedVariables false
set_option linter.unusedSimpArgs false
set_option linter.unusedSectionVars false

theorem loop_run {nE : Nat} {R : Nat → Rl} (I : Nat → Env → Prop) (Q : Outc → Prop) (n : Nat)
    (step : ∀ i env, i ≤ n → I i env → (∃ env', R 0 env (.inl (0, env')) ∧ i < n ∧ I (i + 1) env') ∨ (∃ j env', j < nE ∧ R 0 env (.inl (1 + j, env')) ∧ Q (.inl (j, env'))) ∨ ∃ v, R 0 env (.inr v) ∧ Q (.inr v)) :
    ∀ d i env, i + d = n → I i env → ∃ out, LoopR 1 nE R 0 env out ∧ Q out := by
  intro d
  induction d with
  | zero =>
    intro i env hi h
    rcases step i env (by omega) h with ⟨env', _, h2, _⟩ | ⟨j, env', h1, h2, h3⟩ | ⟨v, h1, h2⟩
    · omega
    · exact ⟨_, .out h1 h2, h3⟩
    · exact ⟨_, .fin h1, h2⟩
  | succ d ih =>
    intro i env hi h
    rcases step i env (by omega) h with ⟨env', h1, h2, h3⟩ | ⟨j, env', h1, h2, h3⟩ | ⟨v, h1, h2⟩
    · obtain ⟨out, k1, k2⟩ := ih (i + 1) env' (by omega) h3
      exact ⟨out, .more (by omega) h1 k1, k2⟩
    · exact ⟨_, .out h1 h2, h3⟩
    · exact ⟨_, .fin h1, h2⟩
/-- Heads one behind the other. -/
theorem loop_runH {nH nE : Nat} {R : Nat → Rl} (I : Nat → Env → Prop) (Q : Outc → Prop)
    (step : ∀ i env, i < nH → I i env → (∃ env', R i env (.inl (i + 1, env')) ∧ i + 1 < nH ∧ I (i + 1) env') ∨ (∃ j env', j < nE ∧ R i env (.inl (nH + j, env')) ∧ Q (.inl (j, env'))) ∨ ∃ v, R i env (.inr v) ∧ Q (.inr v)) :
    ∀ d i env, i + d + 1 = nH → I i env → ∃ out, LoopR nH nE R i env out ∧ Q out := by
  intro d
  induction d with
  | zero =>
    intro i env hi h
    rcases step i env (by omega) h with ⟨env', _, h2, _⟩ | ⟨j, env', h1, h2, h3⟩ | ⟨v, h1, h2⟩
    · omega
    · exact ⟨_, .out h1 h2, h3⟩
    · exact ⟨_, .fin h1, h2⟩
  | succ d ih =>
    intro i env hi h
    rcases step i env (by omega) h with ⟨env', h1, h2, h3⟩ | ⟨j, env', h1, h2, h3⟩ | ⟨v, h1, h2⟩
    · obtain ⟨out, k1, k2⟩ := ih (i + 1) env' (by omega) h3
      exact ⟨out, .more (by omega) h1 k1, k2⟩
    · exact ⟨_, .out h1 h2, h3⟩
    · exact ⟨_, .fin h1, h2⟩
section
variable [S : Sy]
theorem selR_at {T : Trl} {env : Env} {k : Nat} {σ : List Xp} {r : List (Nat × Nat)} (h : @Trl.sel (S.at env) T = some (.at k σ r)) : selR T env (.inl (k, @envOf (S.at env) σ)) := by
  unfold selR nxt
  rw [h]
theorem selR_fin {T : Trl} {env : Env} {e : Xp} (h : @Trl.sel (S.at env) T = some (.fin e)) : selR T env (.inr (@Xp.den (S.at env) e)) := by
  unfold selR nxt
  rw [h]
theorem then_on {nL nH : Nat} {R1 : Rl} {R : Nat → Rl} {env : Env} {k : Nat} {e : Env} {out : Outc} (h : R1 env (.inl (k, e))) (hk : k < nL) (h2 : R k e out) : ThenE nL nH R1 R env out := ⟨_, h, by show (if k < nL then _ else _); rw [if_pos hk]; exact h2⟩
theorem then_fin {nL nH : Nat} {R1 : Rl} {R : Nat → Rl} {env : Env} {v : PV} (h : R1 env (.inr v)) : ThenE nL nH R1 R env (.inr v) := ⟨_, h, rfl⟩
theorem then_out {nL nH : Nat} {R1 : Rl} {R : Nat → Rl} {env : Env} {j : Nat} {e : Env} (h : R1 env (.inl (nL + j, e))) : ThenE nL nH R1 R env (.inl (nH + j, e)) := ⟨_, h, by show (if nL + j < nL then _ else _); rw [if_neg (by omega), Nat.add_sub_cancel_left]⟩
end
theorem i64_add1 {n : Int} (h0 : 0 ≤ n) (h : n < 9223372036854775807) : IntKind.i64.wrap (n + 1) = n + 1 := by rw [IntKind.wrap]; simp [IntKind.bits, IntKind.signed]; omega
end Go.Proofs.YtdflkikhmngfiaaGreatDoor

