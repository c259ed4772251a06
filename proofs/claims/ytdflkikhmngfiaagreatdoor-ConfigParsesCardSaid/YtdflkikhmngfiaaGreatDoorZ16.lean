/- EyGo · EyZ: joined by a program, for a claim has at most 60 files. -/
import Derived.Test.YtdflkikhmngfiaaGreatDoorZ07
import Derived.ScopeJumps
import Derived.Test.YtdflkikhmngfiaaGreatDoorZ15
import Derived.LoopN
import Derived.Conc.MuLone
/- A scope in which the run jumps, so many times at most. -/
namespace Go.Proofs.YtdflkikhmngfiaaGreatDoor
open Go.RowKit
set_option linter.unusedVariables false
set_option linter.unusedSimpArgs false
set_option linter.unusedSectionVars false
variable [Sy] [Dc] [DcOK]

def jq (body : Code) (Q : Exit → Act → World → Prop) (J : Code → Act → World → Prop) : Exit → Act → World → Prop
  | .goto l, a, w => ∃ rest, findLabel body l = some rest ∧ J rest a w
  | e, a, w => Q e a w
def jumps (P : Program) (body : Code) (Q : Exit → Act → World → Prop) : Nat → Code → Act → World → Prop
  | 0 => fun _ _ _ => False
  | m + 1 => fun c a w => c.wp P (jq body Q (jumps P body Q m)) a w
theorem jumps_arrive {P : Program} {body : Code} {Q : Exit → Act → World → Prop} : ∀ (m : Nat) (c : Code) (a : Act) (w : World), jumps P body Q m c a w → ∀ (b : Frame) (k : List Item) (cs : List Frame),
    ∃ e a' w', Q e a' w' ∧ Arrives P (lone (b.at a (.code c :: .inScope body :: k)) cs w) b k cs e a' w'
  | 0, c, a, w, h, _, _, _ => h.elim
  | m + 1, c, a, w, h, b, k, cs => by
    obtain ⟨e, a₁, w₁, hq, harr⟩ := h b (.inScope body :: k) cs
    cases e with
    | normal => exact ⟨.normal, a₁, w₁, hq, Steps.trans harr (.one step_inScope)⟩
    | exit id => exact ⟨.exit id, a₁, w₁, hq, fun k' hk => harr k' (by simp [exitTo, hk])⟩
    | goto l' =>
      obtain ⟨rest, hf, hJ⟩ := hq
      have hg : gotoIn l' (.inScope body :: k) = some (.code rest :: .inScope body :: k) := by simp [gotoIn, hf]
      obtain ⟨e₂, a₂, w₂, hq₂, harr₂⟩ := jumps_arrive m rest a₁ w₁ hJ b k cs
      exact ⟨e₂, a₂, w₂, hq₂, .of_steps (harr _ hg) harr₂⟩
    | ret => exact ⟨_, a₁, w₁, hq, harr⟩
    | panic ch => exact ⟨_, a₁, w₁, hq, harr⟩
    | outgrown => exact ⟨_, a₁, w₁, hq, harr⟩
theorem wp_scope_rounds {P : Program} {body : Code} {Q : Exit → Act → World → Prop} {a : Act} {w : World} (m : Nat) (h : jumps P body Q m body a w) : (Code.scope body).wp P Q a w := by
  intro b k cs
  obtain ⟨e, a₁, w₁, hq, harr⟩ := jumps_arrive m body a w h b k cs
  exact ⟨e, a₁, w₁, hq, .of_steps (.one step_scope) harr⟩
end Go.Proofs.YtdflkikhmngfiaaGreatDoor


/- Code that the machine runs is run so in the program. -/
namespace Go.Proofs.YtdflkikhmngfiaaGreatDoor
open Go.RowKit
set_option linter.unusedVariables false
set_option linter.unusedSimpArgs false
set_option linter.unusedSectionVars false
variable [Sy] [Dc] [DcOK]

theorem loc_exOpT {P : Program} {tab : Op → List AV → Tb} {call : FuncId → List AV → M AV} (hc : ∀ f args, Loc (call f args)) (o : Oper) (args : List AV) : Loc (exOpT P tab call o args) := by
  unfold exOpT
  cases anyUn args with
  | false => exact loc_exOp hc o args
  | true =>
    cases tab o.op args with
    | no => exact loc_exOp hc o args
    | val x => exact Loc.ret x
    | ask l => exact Loc.fail _
/-- A world that has more blocks. -/
theorem below_grow {B : Nat} {ρ : Pm} {h : Heap} {w w' : World} (hr : Rep B ρ h w) (hb : Below w.heap.size w w') : Below B w w' := ⟨hb.os, hb.tape, hb.output, hb.size, fun k hk => hb.block k (Nat.lt_of_lt_of_le hk hr.size)⟩
theorem Rep.grow {B : Nat} {ρ : Pm} {h : Heap} {w w' : World} (hr : Rep B ρ h w) (hb : Below w.heap.size w w') : Rep B ρ h w' := by
  refine ⟨Nat.le_trans hr.size hb.size, fun n hn => ?_, hr.free, hr.apart, Sy.keep hr.inv (below_grow hr hb), fun b i v h1 => (cell_congr (hb.block b (hr.fzlt h1)) i none).trans (hr.frz b i v h1), hr.sep, fun n el sh e h1 => (hr.tok n el sh e h1).of rfl (fun _ _ _ _ _ => rfl) fun b f c hb2 => hb.block b (hr.lt (by rw [h1]; rfl) hb2).1, hr.low, fun b o hg => ⟨(hb.block b (hr.glt hg)).trans (hr.gho b o hg).1, (hr.gho b o hg).2⟩⟩
  obtain ⟨b, f, c, o, h1, h2, h3, h4⟩ := hr.live n hn
  exact ⟨b, f, c, o, h1, h2, (hb.block b (Array.getElem?_eq_some_iff.1 h3).1).trans h3, h4⟩
/-- What is new stays as it is from then on. -/
def growF (F : Fz) (w w' : World) : Fz := fun b i => if w.heap.size ≤ b then w'.cell? ⟨b, i, none⟩ else F b i
def Pm.grow (ρ : Pm) (w w' : World) : Pm := ⟨ρ.nm, growF ρ.fz w w'⟩
theorem Rep.frozen {B : Nat} {ρ : Pm} {h : Heap} {w w' : World} (hr : Rep B ρ h w) (hb : Below w.heap.size w w') : ρ.le (ρ.grow w w') ∧ Rep B (ρ.grow w w') h w' := by
  have hle : ρ.le (ρ.grow w w') := ⟨fun _ _ h => h, fun b i v h1 => by
    show (if w.heap.size ≤ b then _ else ρ.fz b i) = _
    have := hr.fzlt h1
    rw [if_neg (by omega)]
    exact h1⟩
  have hold : ∀ b i, b < w.heap.size → (ρ.grow w w').fz b i = ρ.fz b i := fun b i hb => if_neg (by omega)
  have hg := hr.grow hb
  refine ⟨hle, hg.size, fun n hn => ?_, hg.free, hg.apart, hg.inv, fun b i v h1 => ?_, fun n b f c hl hp i => ?_, fun n el sh e h1 => ?_, fun b i v hb2 h1 => hg.low b i v hb2 ((hold b i (Nat.lt_of_lt_of_le hb2 hr.size)).symm.trans h1), hg.gho⟩
  · obtain ⟨b, f, c, o, k1, k2, k3, k4⟩ := hg.live n hn
    exact ⟨b, f, c, o, k1, k2, k3, repB_mono hle k4⟩
  · by_cases h2 : w.heap.size ≤ b
    · have h1 : (if w.heap.size ≤ b then w'.cell? ⟨b, i, none⟩ else ρ.fz b i) = some v := h1
      rw [if_pos h2] at h1
      exact h1
    · rw [hold b i (by omega)] at h1
      exact hg.frz b i v h1
  · rw [hold b i (hr.lt (Mta.live_held hl) hp).1]
    exact hr.sep n b f c hl hp i
  · exact (hg.tok n el sh e h1).of rfl (fun b f c hp i => hold b i (hr.lt (by rw [h1]; rfl) hp).1) fun _ _ _ _ => rfl
/-- Operations whose outcome is told: they come to it. -/
def TabSnd (P : Program) (B : Nat) (ρ0 : Pm) (tab : Op → List AV → Tb) : Prop := ∀ (o : Oper) args x, tab o.op args = .val x → ∀ (ρ : Pm) (h : Heap) (act : Act) (w : World), ρ0.le ρ → Rep B ρ h w →
  AV.rps ρ args (o.op.operands.toList.map act.eval) → ∃ v w', (execOp act.eval o).run P w = .ok (.value v) w' ∧ x.rp (ρ.grow w w') v ∧ Below w.heap.size w w'
theorem exOpT_snd {P : Program} {B : Nat} {ρ0 : Pm} {tab : Op → List AV → Tb} {call : FuncId → List AV → M AV} (hc : CallSnd P B ρ0 call) (ht : TabSnd P B ρ0 tab) : OpSnd P B ρ0 (exOpT P tab call) := by
  intro o args lo h c lg x h' c' lg' e
  unfold exOpT at e
  cases ha : anyUn args with
  | false => rw [ha] at e; exact exOp_snd hc o args lo h c lg x h' c' lg' e
  | true =>
    rw [ha] at e
    cases hx : tab o.op args with
    | no => rw [hx] at e; exact exOp_snd hc o args lo h c lg x h' c' lg' e
    | ask l => rw [hx] at e; cases e
    | val y =>
      rw [hx] at e
      obtain ⟨rfl, rfl, _, _⟩ := ret_ok (show ret y lo h c lg = .ok x h' c' lg' from e)
      intro ρ act w K Q hle hr hv hk
      obtain ⟨v, w', h1, h2, h3⟩ := ht o args _ hx ρ _ act w hle hr hv
      obtain ⟨k1, k2⟩ := hr.frozen h3
      exact wp_val h1 (hk _ v w' k1 h2 k2 (below_grow hr h3))
theorem loc_resL (P : Program) (a : Tr AV) : ∀ l, Loc (resL P a l)
  | [] => Loc.ret []
  | r :: l => by
    refine Loc.bnd (f := match r with
      | .tmp t => need (a.get t) 140 fun x => ret x
      | .cell p t => need (a.get p) 141 fun x => loadM P t x) ?_ (fun _ => Loc.bnd (loc_resL P a l) fun _ => Loc.ret _)
    cases r with
    | tmp t => exact Loc.need _ _ fun _ => Loc.ret _
    | cell p t => exact Loc.need _ _ fun _ => loc_loadM P t _
def OraLoc (ora : Ora) : Prop := ∀ f g, ora.fn f = some g → ∀ args, Loc (g args)
noncomputable def oneM (l : List AV) : M AV := match l with
  | [x] => ret x
  | l => ret (.tup l)
theorem loc_oneM (l : List AV) : Loc (oneM l) := by
  unfold oneM
  split
  · exact Loc.ret _
  · exact Loc.ret _
noncomputable def endM (P : Program) (fn : Func) (r : CR) : M AV := match r.x with
  | .exit _ => fail [153]
  | .goto _ => fail [153]
  | _ => bnd (resL P r.a fn.results.toList) fun l => oneM l
theorem callM_none {P : Program} {ora : Ora} {ih : Nat → Code → Tr AV → M CR} {f : FuncId} {args : List AV} (h : ora.fn f = none) : callM P ora ih f args =
    tag f (need (P.funcs[f]?) 150 fun fn => need fn.body 151 fun c => want (Nat.ble (lenL args) fn.ntmps) 152 <| bnd (ih fn.ntmps c (Tr.fill args 0 (blank fn.ntmps))) fun r => endM P fn r) := by
  unfold callM
  rw [h]
  rfl
theorem callM_some {P : Program} {ora : Ora} {ih : Nat → Code → Tr AV → M CR} {f : FuncId} {args : List AV} {g : List AV → M AV} (h : ora.fn f = some g) : callM P ora ih f args = g args := by
  unfold callM
  rw [h]
theorem loc_callM {P : Program} {ora : Ora} (ho : OraLoc ora) {ih : Nat → Code → Tr AV → M CR} (hih : ∀ N c a, Loc (ih N c a)) (f : FuncId) (args : List AV) : Loc (callM P ora ih f args) := by
  cases hf : ora.fn f with
  | some g => rw [callM_some hf]; exact ho f g hf args
  | none =>
    rw [callM_none hf]
    refine Loc.tag (Loc.need _ _ fun fn => Loc.need _ _ fun c => Loc.want _ _ (Loc.bnd (hih _ _ _) fun r => ?_))
    unfold endM
    split
    · exact Loc.fail _
    · exact Loc.fail _
    · exact Loc.bnd (loc_resL P _ _) fun l => loc_oneM l
/-- What the code's exit does to what comes behind it. -/
noncomputable def seqM (k : Tr AV → M CR) (r : CR) : M CR := match r.x with
  | .normal => k r.a
  | _ => ret r
noncomputable def blkM (id : Nat) (r : CR) : M CR := match r.x with
  | .exit i => bif Nat.beq i id then ret ⟨.normal, r.a⟩ else ret r
  | _ => ret r
theorem loc_seqM {k : Tr AV → M CR} (hk : ∀ a, Loc (k a)) (r : CR) : Loc (seqM k r) := by
  unfold seqM
  split
  · exact hk _
  · exact Loc.ret _
theorem loc_blkM (id : Nat) (r : CR) : Loc (blkM id r) := by
  unfold blkM
  split
  · exact loc_cond (Loc.ret _) (Loc.ret _)
  · exact Loc.ret _
section
variable {P : Program} {G : Nat → Option AV} {ora : Ora}
theorem exec_seq (n N : Nat) (x y : Code) (a : Tr AV) : exec P G ora (n + 1) N (.seq x y) a = bnd (exec P G ora n N x a) fun r => seqM (exec P G ora n N y) r := rfl
theorem exec_loop (n N : Nat) (x : Code) (a : Tr AV) : exec P G ora (n + 1) N (.loop x) a = bnd (exec P G ora n N x a) fun r => seqM (exec P G ora n N (.loop x)) r := rfl
theorem exec_block (n N id : Nat) (x : Code) (a : Tr AV) : exec P G ora (n + 1) N (.block id x) a = bnd (exec P G ora n N x a) fun r => blkM id r := rfl
theorem exec_scope (n N : Nat) (x : Code) (a : Tr AV) : exec P G ora (n + 1) N (.scope x) a = jmps (exec P G ora n N) x 100000 x a := rfl
noncomputable def jmpK (x : Code) (ih : Code → Tr AV → M CR) (r : CR) : M CR := match r.x with
  | .goto l => need (findLabel x l) 167 fun rest => ih rest r.a
  | _ => ret r
theorem jmps_succ (ex : Code → Tr AV → M CR) (x : Code) (m : Nat) (c : Code) (a : Tr AV) : jmps ex x (m + 1) c a = bnd (ex c a) (jmpK x (jmps ex x m)) := rfl
theorem loc_jmps {ex : Code → Tr AV → M CR} (he : ∀ c a, Loc (ex c a)) (x : Code) : ∀ m c a, Loc (jmps ex x m c a)
  | 0, c, a => Loc.fail _
  | m + 1, c, a => by
    rw [jmps_succ]
    refine Loc.bnd (he c a) fun r => ?_
    unfold jmpK
    split
    · exact Loc.need _ _ fun rest => loc_jmps he x m rest r.a
    · exact Loc.ret _
noncomputable def ifM (x y : M CR) (v : AV) : M CR := match v with
  | .bool b => Bool.rec (motive := fun _ => M CR) y x b
  | v => fail (askV v)
theorem exec_cond (n N : Nat) (o : Operand) (x y : Code) (a : Tr AV) : exec P G ora (n + 1) N (.cond o x y) a = need (evl G a o) 163 fun v => ifM (exec P G ora n N x a) (exec P G ora n N y a) v := rfl
theorem exec_region (n N id : Nat) (ops : Array Oper) (a : Tr AV) : exec P G ora (n + 1) N (.region id ops false) a = want (dstOK N ops) 161 (bnd (runL ⟨G, exOpT P ora.tab (callM P ora (exec P G ora n))⟩ ops ops.toList a) fun a => ret ⟨.normal, a⟩) := rfl
theorem exec_draw (n N id : Nat) (ops : Array Oper) (a : Tr AV) : exec P G ora (n + 1) N (.region id ops true) a = want (statOK N ops) 162 (bnd (drw ⟨G, exOpT P ora.tab (callM P ora (exec P G ora n))⟩ ops (masks ops.toList 0 .leaf) ops.toList 0 [] a) fun a => ret ⟨.normal, a⟩) := rfl
theorem loc_exec (ho : OraLoc ora) : ∀ n N c a, Loc (exec P G ora n N c a)
  | 0, N, c, a => Loc.fail _
  | n + 1, N, c, a => by
    have hX : ∀ o args, Loc ((⟨G, exOpT P ora.tab (callM P ora (exec P G ora n))⟩ : Mach).op o args) := fun o args => loc_exOpT (fun f args => loc_callM ho (loc_exec ho n) f args) o args
    cases c with
    | skip => exact Loc.ret _
    | label l => exact Loc.ret _
    | exit id => exact Loc.ret _
    | ret => exact Loc.ret _
    | region id ops d =>
      cases d with
      | false => rw [exec_region]; exact Loc.want _ _ (Loc.bnd (Loc.runL hX ops _ _) fun _ => Loc.ret _)
      | true => rw [exec_draw]; exact Loc.want _ _ (Loc.bnd (Loc.drw hX ops _ _ _ _ _) fun _ => Loc.ret _)
    | seq x y => rw [exec_seq]; exact Loc.bnd (loc_exec ho n N x a) fun r => loc_seqM (fun a => loc_exec ho n N y a) r
    | loop x => rw [exec_loop]; exact Loc.bnd (loc_exec ho n N x a) fun r => loc_seqM (fun a => loc_exec ho n N (.loop x) a) r
    | block id x => rw [exec_block]; exact Loc.bnd (loc_exec ho n N x a) fun r => loc_blkM id r
    | scope x => rw [exec_scope]; exact loc_jmps (fun c a => loc_exec ho n N c a) x _ x a
    | goto l => exact Loc.ret _
    | cond o x y =>
      rw [exec_cond]
      refine Loc.need _ _ fun v => ?_
      unfold ifM
      split
      · exact loc_brec (loc_exec ho n N y a) (loc_exec ho n N x a)
      · exact Loc.fail _
    | _ => exact Loc.fail _
end
/-- One of a function's results. -/
def resG (tmps : Array Value) : ResultVar → Sem Value
  | .tmp t => pure (tmps.getD t undef)
  | .cell a t => do loadVar t (← asAddr (tmps.getD a undef))
theorem results_run {P : Program} {fn : Func} {tmps : Array Value} {w : World} {vs : List Value} (h : (fn.results.toList.mapM (resG tmps)).run P w = .ok vs w) : (results fn tmps).run P w = .ok (if h : vs.toArray.size = 1 then vs.toArray[0] else .tuple vs.toArray) w := by
  have e : results fn tmps = (do let vs ← fn.results.mapM (resG tmps); pure (if h : vs.size = 1 then vs[0] else .tuple vs)) := by
    unfold results
    congr 1
  rw [e, Array.mapM_eq_mapM_toList]
  simp [h]
section
variable {P : Program} {B : Nat} {ρ : Pm} {w : World}
theorem resL_snd {D : List Deferred} {N : Nat} {a : Tr AV} {act : Act} {h : Heap} (hr : Rep B ρ h w) (hf : Frm D ρ N a act) : ∀ {l : List ResultVar} {lo c : Nat} {lg : List Ev} {m : List AV} {h' : Heap} {c' : Nat} {lg' : List Ev}, resL P a l lo h c lg = .ok m h' c' lg' →
    h' = h ∧ ∃ vs, (l.mapM (resG act.tmps)).run P w = .ok vs w ∧ AV.rps ρ m vs
  | [], lo, c, lg, m, h', c', lg', e => by
    obtain ⟨rfl, rfl, _, _⟩ := ret_ok (show ret [] lo h c lg = .ok m h' c' lg' from e)
    exact ⟨rfl, [], by simp, rps_nil.2 rfl⟩
  | r :: l, lo, c, lg, m, h', c', lg', e => by
    obtain ⟨x, h1, c1, lg1, e1, e9⟩ := bnd_ok (show bnd (match r with
      | .tmp t => need (a.get t) 140 fun x => ret x
      | .cell p t => need (a.get p) 141 fun x => loadM P t x) (fun x => bnd (resL P a l) fun l => ret (x :: l)) lo h c lg = .ok m h' c' lg' from e)
    have one : h1 = h ∧ ∃ v, (resG act.tmps r).run P w = .ok v w ∧ x.rp ρ v := by
      cases r with
      | tmp t =>
        obtain ⟨y, h2, e2⟩ := need_ok (show need (a.get t) 140 (fun x => ret x) lo h c lg = .ok x h1 c1 lg1 from e1)
        obtain ⟨rfl, rfl, _, _⟩ := ret_ok e2
        obtain ⟨v, h3, h4⟩ := hf.slot t _ h2
        exact ⟨rfl, v, by simp [resG, Array.getD_eq_getD_getElem?, h3], h4⟩
      | cell p t =>
        obtain ⟨y, h2, e2⟩ := need_ok (show need (a.get p) 141 (fun x => loadM P t x) lo h c lg = .ok x h1 c1 lg1 from e1)
        obtain ⟨v, h3, h4⟩ := hf.slot p _ h2
        cases y with
        | ptr n o =>
          simp only [AV.rp] at h4
          obtain ⟨b, f, cc, hn, rfl⟩ := h4
          obtain ⟨rfl, u, k1, k2⟩ := loadVar_snd e2 hr hn
          exact ⟨rfl, u, by simp [resG, Array.getD_eq_getD_getElem?, h3, asAddr, k1], k2⟩
        | _ => cases e2
    obtain ⟨rfl, v, k1, k2⟩ := one
    obtain ⟨ml, h2, c2, lg2, e2, e3⟩ := bnd_ok e9
    obtain ⟨rfl, rfl, _, _⟩ := ret_ok e3
    obtain ⟨rfl, vs, k3, k4⟩ := resL_snd hr hf e2
    exact ⟨rfl, v :: vs, by simp [List.mapM_cons, k1, k3], rps_cons.2 ⟨_, _, rfl, k2, k4⟩⟩
theorem oneM_snd {l : List AV} {vs : List Value} {lo : Nat} {h : Heap} {c : Nat} {lg : List Ev} {x : AV} {h' : Heap} {c' : Nat} {lg' : List Ev} (e : oneM l lo h c lg = .ok x h' c' lg') (hv : AV.rps ρ l vs) : h' = h ∧ x.rp ρ (if h : vs.toArray.size = 1 then vs.toArray[0] else .tuple vs.toArray) := by
  unfold oneM at e
  split at e
  · obtain ⟨rfl, rfl, _, _⟩ := ret_ok e
    obtain ⟨v, rfl, h1⟩ := rps_one hv
    exact ⟨rfl, by simpa using h1⟩
  · rename_i hne
    obtain ⟨rfl, rfl, _, _⟩ := ret_ok e
    refine ⟨rfl, ?_⟩
    have hs : ¬ vs.toArray.size = 1 := fun hs => by
      have hl := (rps_at.1 hv).1
      rw [List.size_toArray, ← hl] at hs
      obtain ⟨y, rfl⟩ := List.length_eq_one_iff.1 hs
      exact hne y rfl
    rw [dif_neg hs]
    simp only [AV.rp]
    exact ⟨_, rfl, by simpa using hv⟩
end
theorem get_blank : ∀ (n t : Nat), (blank n).get t = if t < n then some (.tup []) else none
  | 0, t => by rw [if_neg (by omega)]; rfl
  | n + 1, t => by
    rw [show blank (n + 1) = (blank n).set n (.tup []) from rfl, Tr.get_set, get_blank n t]
    by_cases h : t = n
    · rw [if_pos h, if_pos (by omega)]
    · rw [if_neg h]
      by_cases h2 : t < n
      · rw [if_pos h2, if_pos (by omega)]
      · rw [if_neg h2, if_neg (by omega)]
theorem Frm.start {ρ : Pm} {n : Nat} {args : List AV} {vs : Array Value} (hv : AV.rps ρ args vs.toList) (hn : args.length ≤ n) : Frm [] ρ n (Tr.fill args 0 (blank n)) { tmps := vs ++ Array.replicate (n - vs.size) undef, defers := [] } := by
  obtain ⟨h1, h2⟩ := rps_at.1 hv
  have hs : args.length = vs.size := by simpa using h1
  refine ⟨rfl, by simp; omega, fun t x hx => ?_⟩
  rw [Tr.get_fill] at hx
  by_cases ht : t < args.length
  · rw [if_pos (by omega), Nat.sub_zero] at hx
    obtain ⟨v, h3, h4⟩ := h2 t x hx
    refine ⟨v, ?_, h4⟩
    show (vs ++ Array.replicate (n - vs.size) undef)[t]? = some v
    rw [Array.getElem?_append, if_pos (by omega)]
    simpa using h3
  · rw [if_neg (by omega), get_blank] at hx
    by_cases h3 : t < n
    · rw [if_pos h3] at hx
      injection hx with hx
      subst hx
      refine ⟨undef, ?_, rp_undef⟩
      show (vs ++ Array.replicate (n - vs.size) undef)[t]? = some undef
      rw [Array.getElem?_append, if_neg (by omega), Array.getElem?_replicate, if_pos (by omega)]
    · rw [if_neg h3] at hx; cases hx
def Ex.out : Ex → Exit
  | .normal => .normal
  | .exit i => .exit i
  | .ret => .ret
  | .goto l => .goto l
def NamesOK (P : Program) : Prop := ∀ (f : FuncId) (fn : Func) (c : Code), P.funcs[f]? = some fn → fn.body = some c → (fn.name == "runtime.NumGoroutine") = false
/-- Functions that are told by a contract. -/
def OraSnd (P : Program) (B : Nat) (ρ0 : Pm) (ora : Ora) : Prop := ∀ f g, ora.fn f = some g → ∀ args lo h c lg x h' c' lg', g args lo h c lg = .ok x h' c' lg' → ∀ (ρ : Pm) (w : World) (vs : Array Value), ρ0.le ρ → Rep B ρ h w → AV.rps ρ args vs.toList → CallRes P B f vs ρ w x h'
/-- Code, run by the machine. -/
def ExecSnd (P : Program) (B : Nat) (ρ0 : Pm) (n : Nat) (ex : Nat → Code → Tr AV → M CR) : Prop := ∀ N c a lo h c0 lg r h' c' lg', ex N c a lo h c0 lg = .ok r h' c' lg' → ∀ (D : List Deferred) (ρ : Pm) (act : Act) (w : World) (Q : Exit → Act → World → Prop), ρ0.le ρ → Rep B ρ h w → Frm D ρ N a act →
  (∀ ρ' act' w', ρ.le ρ' → Rep B ρ' h' w' → Frm D ρ' N r.a act' → Below B w w' → Q r.x.out act' w') → c.wp P Q act w ∧ ∀ x, c = .loop x → Code.rounds P x Q n act w
section
variable {P : Program} {B : Nat} {ρ0 : Pm} {G : Nat → Option AV} {ora : Ora}
theorem callM_snd (hN : NamesOK P) (ho : OraSnd P B ρ0 ora) {n : Nat} {ex : Nat → Code → Tr AV → M CR} (hex : ExecSnd P B ρ0 n ex) : CallSnd P B ρ0 (callM P ora ex) := by
  intro f args lo h c lg x h' c' lg' e ρ w vs hle hr hv
  cases hf : ora.fn f with
  | some g => rw [callM_some hf] at e; exact ho f g hf args lo h c lg x h' c' lg' e ρ w vs hle hr hv
  | none =>
    rw [callM_none hf] at e
    have e := tag_ok.1 e
    obtain ⟨fn, h1, e⟩ := need_ok e
    obtain ⟨code, h2, e⟩ := need_ok e
    obtain ⟨h3, e⟩ := want_ok e
    rw [Nat.ble_eq, lenL_eq] at h3
    obtain ⟨r, h4, c4, lg4, e1, e2⟩ := bnd_ok e
    refine .inl ⟨MuLone.run_callFunc_enter h1 (hN f fn code h1 h2) h2 vs w, calls_of_wp h1 h2 ?_⟩
    refine (hex _ _ _ _ _ _ _ _ _ _ _ e1 [] ρ _ w _ hle hr (Frm.start hv h3) fun ρ' act' w' l1 l2 l3 l4 => ?_).1
    unfold endM at e2
    have fin : ∀ {lo2 c2 : Nat} {lg2 : List Ev}, bnd (resL P r.a fn.results.toList) (fun l => oneM l) lo2 h4 c2 lg2 = .ok x h' c' lg' → act'.defers = [] ∧ ∃ v, (results fn act'.tmps).run P w' = .ok v w' ∧ (∃ ρ' v', Ending.returned v = .returned v' ∧ ρ.le ρ' ∧ x.rp ρ' v' ∧ Rep B ρ' h' w' ∧ Below B w w') := fun e => by
      obtain ⟨m, h5, c5, lg5, e3, e4⟩ := bnd_ok e
      obtain ⟨rfl, us, k1, k2⟩ := resL_snd l2 l3 e3
      obtain ⟨rfl, k3⟩ := oneM_snd e4 k2
      exact ⟨l3.defers, _, results_run k1, ρ', _, rfl, l1, k3, l2, l4⟩
    cases hx : r.x with
    | normal => rw [hx] at e2; exact fin e2
    | ret => rw [hx] at e2; exact fin e2
    | exit i => rw [hx] at e2; cases e2
    | goto i => rw [hx] at e2; cases e2
theorem exec_snd (hG : GlobOK G ρ0) (hN : NamesOK P) (hm : P.follows .mixedOrders = true) (hl : OraLoc ora) (ho : OraSnd P B ρ0 ora) (ht : TabSnd P B ρ0 ora.tab) : ∀ n, ExecSnd P B ρ0 n (exec P G ora n)
  | 0 => by
    intro N c a lo h c0 lg r h' c' lg' e
    cases e
  | n + 1 => by
    have ih := exec_snd hG hN hm hl ho ht n
    have hcall := callM_snd hN ho ih
    have hop := exOpT_snd hcall ht
    intro N c a lo h c0 lg r h' c' lg' e D ρ act w Q hle hr hf hk
    have now : ∀ {x : Ex}, ret (⟨x, a⟩ : CR) lo h c0 lg = .ok r h' c' lg' → Q x.out act w := fun e => by
      obtain ⟨rfl, rfl, _, _⟩ := ret_ok e
      exact hk ρ act w (Pm.le.refl ρ) hr hf (Below.refl _ _)
    cases c with
    | skip => exact ⟨wp_skip (now (x := .normal) e), fun x h => by cases h⟩
    | label l => exact ⟨wp_label (now (x := .normal) e), fun x h => by cases h⟩
    | exit id => exact ⟨wp_exit (now (x := .exit id) e), fun x h => by cases h⟩
    | ret => exact ⟨wp_ret (now (x := .ret) e), fun x h => by cases h⟩
    | goto l => exact ⟨wp_goto (now (x := .goto l) e), fun x h => by cases h⟩
    | region id ops d =>
      refine ⟨?_, fun x h => by cases h⟩
      cases d with
      | false =>
        rw [exec_region] at e
        obtain ⟨hd, e⟩ := want_ok e
        obtain ⟨a1, h1, c1, lg1, e1, e2⟩ := bnd_ok e
        obtain ⟨rfl, rfl, _, _⟩ := ret_ok e2
        have hdst : ∀ (i : Nat) (o : Oper), ops[i]? = some o → ∀ d, o.dst = some d → d < N := fun i o ho d hd2 => by
          have := List.all_eq_true.1 hd o (by rw [← Array.getElem?_toList] at ho; exact List.mem_of_getElem? ho)
          rw [hd2] at this
          exact blt_iff.1 this
        refine wp_region ?_
        have := runL_sound (OpSnd.ok hG hop hdst) ops.toList 0 rfl _ _ _ _ _ _ _ _ _ e1 ρ act w hle hr hf (Q := Q) hk
        simpa using this
      | true =>
        rw [exec_draw] at e
        obtain ⟨hd, e⟩ := want_ok e
        obtain ⟨a1, h1, c1, lg1, e1, e2⟩ := bnd_ok e
        obtain ⟨rfl, rfl, _, _⟩ := ret_ok e2
        refine wp_region_any hm ?_
        refine draw_sound (X := ⟨G, exOpT P ora.tab (callM P ora (exec P G ora n))⟩) (fun o args => loc_exOpT (fun f args => loc_callM hl (loc_exec hl n) f args) o args) (OpSnd.ok hG hop fun i o ho => (statOK_spec hd ho).2.1) hd e1 hle (hr.drew) hf fun ρ' act' w' l1 l2 l3 l4 => ?_
        exact hk ρ' act' w' l1 l2 l3 (Below.drew_iff l4)
    | seq x y =>
      refine ⟨?_, fun x h => by cases h⟩
      rw [exec_seq] at e
      obtain ⟨r1, h1, c1, lg1, e1, e2⟩ := bnd_ok e
      refine wp_seq (ih _ _ _ _ _ _ _ _ _ _ _ e1 D ρ act w _ hle hr hf fun ρ1 a1 w1 l1 l2 l3 l4 => ?_).1
      unfold seqM at e2
      cases hx : r1.x with
      | normal =>
        rw [hx] at e2
        exact (ih _ _ _ _ _ _ _ _ _ _ _ e2 D ρ1 a1 w1 Q (hle.trans l1) l2 l3 fun ρ2 a2 w2 k1 k2 k3 k4 => hk ρ2 a2 w2 (l1.trans k1) k2 k3 (l4.trans k4)).1
      | exit i =>
        rw [hx] at e2
        obtain ⟨rfl, rfl, _, _⟩ := ret_ok e2
        have := hk ρ1 a1 w1 l1 l2 l3 l4
        rw [hx] at this
        exact this
      | ret =>
        rw [hx] at e2
        obtain ⟨rfl, rfl, _, _⟩ := ret_ok e2
        have := hk ρ1 a1 w1 l1 l2 l3 l4
        rw [hx] at this
        exact this
      | goto i =>
        rw [hx] at e2
        obtain ⟨rfl, rfl, _, _⟩ := ret_ok e2
        have := hk ρ1 a1 w1 l1 l2 l3 l4
        rw [hx] at this
        exact this
    | loop x =>
      rw [exec_loop] at e
      obtain ⟨r1, h1, c1, lg1, e1, e2⟩ := bnd_ok e
      have rd : Code.rounds P x Q (n + 1) act w := by
        rw [rounds_succ]
        refine (ih _ _ _ _ _ _ _ _ _ _ _ e1 D ρ act w _ hle hr hf fun ρ1 a1 w1 l1 l2 l3 l4 => ?_).1
        unfold seqM at e2
        cases hx : r1.x with
        | normal =>
          rw [hx] at e2
          exact (ih _ _ _ _ _ _ _ _ _ _ _ e2 D ρ1 a1 w1 Q (hle.trans l1) l2 l3 fun ρ2 a2 w2 k1 k2 k3 k4 => hk ρ2 a2 w2 (l1.trans k1) k2 k3 (l4.trans k4)).2 x rfl
        | exit i =>
          rw [hx] at e2
          obtain ⟨rfl, rfl, _, _⟩ := ret_ok e2
          have := hk ρ1 a1 w1 l1 l2 l3 l4
          rw [hx] at this
          exact this
        | ret =>
          rw [hx] at e2
          obtain ⟨rfl, rfl, _, _⟩ := ret_ok e2
          have := hk ρ1 a1 w1 l1 l2 l3 l4
          rw [hx] at this
          exact this
        | goto i =>
          rw [hx] at e2
          obtain ⟨rfl, rfl, _, _⟩ := ret_ok e2
          have := hk ρ1 a1 w1 l1 l2 l3 l4
          rw [hx] at this
          exact this
      exact ⟨wp_loop_rounds (n + 1) rd, fun y hy => by injection hy with hy; subst hy; exact rd⟩
    | block id x =>
      refine ⟨?_, fun x h => by cases h⟩
      rw [exec_block] at e
      obtain ⟨r1, h1, c1, lg1, e1, e2⟩ := bnd_ok e
      refine wp_block (ih _ _ _ _ _ _ _ _ _ _ _ e1 D ρ act w _ hle hr hf fun ρ1 a1 w1 l1 l2 l3 l4 => ?_).1
      unfold blkM at e2
      cases hx : r1.x with
      | exit i =>
        rw [hx] at e2
        show Exit.inBlock id Q (.exit i) a1 w1
        by_cases hi : i = id
        · subst hi
          have e2 : (bif Nat.beq i i then ret (⟨.normal, r1.a⟩ : CR) else ret r1) lo h1 c1 lg1 = .ok r h' c' lg' := e2
          rw [Nat.beq_refl, cond_true] at e2
          obtain ⟨rfl, rfl, _, _⟩ := ret_ok e2
          simp only [Exit.inBlock, if_true]
          exact hk ρ1 a1 w1 l1 l2 l3 l4
        · have e2 : (bif Nat.beq i id then ret (⟨.normal, r1.a⟩ : CR) else ret r1) lo h1 c1 lg1 = .ok r h' c' lg' := e2
          rw [show Nat.beq i id = false from by cases hb : Nat.beq i id with | false => rfl | true => exact absurd (Nat.eq_of_beq_eq_true hb) hi, cond_false] at e2
          obtain ⟨rfl, rfl, _, _⟩ := ret_ok e2
          simp only [Exit.inBlock, hi, if_false]
          have := hk ρ1 a1 w1 l1 l2 l3 l4
          rw [hx] at this
          exact this
      | normal =>
        rw [hx] at e2
        obtain ⟨rfl, rfl, _, _⟩ := ret_ok e2
        have := hk ρ1 a1 w1 l1 l2 l3 l4
        rw [hx] at this
        exact this
      | ret =>
        rw [hx] at e2
        obtain ⟨rfl, rfl, _, _⟩ := ret_ok e2
        have := hk ρ1 a1 w1 l1 l2 l3 l4
        rw [hx] at this
        exact this
      | goto i =>
        rw [hx] at e2
        obtain ⟨rfl, rfl, _, _⟩ := ret_ok e2
        have := hk ρ1 a1 w1 l1 l2 l3 l4
        rw [hx] at this
        exact this
    | scope x =>
      refine ⟨?_, fun x h => by cases h⟩
      rw [exec_scope] at e
      have key : ∀ (m : Nat) (c : Code) (a : Tr AV) (h : Heap) (c0 : Nat) (lg : List Ev), jmps (exec P G ora n N) x m c a lo h c0 lg = .ok r h' c' lg' → ∀ (ρ : Pm) (act : Act) (w : World), ρ0.le ρ → Rep B ρ h w → Frm D ρ N a act →
          (∀ ρ' act' w', ρ.le ρ' → Rep B ρ' h' w' → Frm D ρ' N r.a act' → Below B w w' → Q r.x.out act' w') → jumps P x Q m c act w := by
        intro m
        induction m with
        | zero => intro c a h c0 lg e; cases e
        | succ m ihm =>
          intro c a h c0 lg e ρ act w hle hr hf hk
          rw [jmps_succ] at e
          obtain ⟨r1, h1, c1, lg1, e1, e2⟩ := bnd_ok e
          refine (ih _ _ _ _ _ _ _ _ _ _ _ e1 D ρ act w _ hle hr hf fun ρ1 a1 w1 l1 l2 l3 l4 => ?_).1
          have other : ret r1 lo h1 c1 lg1 = .ok r h' c' lg' → Q r1.x.out a1 w1 := fun e2 => by
            obtain ⟨rfl, rfl, _, _⟩ := ret_ok e2
            exact hk ρ1 a1 w1 l1 l2 l3 l4
          unfold jmpK at e2
          cases hx : r1.x with
          | goto l =>
            rw [hx] at e2
            obtain ⟨rest, h3, e3⟩ := need_ok e2
            exact ⟨rest, h3, ihm rest _ _ _ _ e3 ρ1 a1 w1 (hle.trans l1) l2 l3 fun ρ2 a2 w2 k1 k2 k3 k4 => hk ρ2 a2 w2 (l1.trans k1) k2 k3 (l4.trans k4)⟩
          | normal => rw [hx] at e2 other; exact other e2
          | exit i => rw [hx] at e2 other; exact other e2
          | ret => rw [hx] at e2 other; exact other e2
      exact wp_scope_rounds _ (key _ x a h c0 lg e ρ act w hle hr hf hk)
    | cond o x y =>
      refine ⟨?_, fun x h => by cases h⟩
      rw [exec_cond] at e
      obtain ⟨v, h1, e⟩ := need_ok e
      have hv := evl_rp hG hle hf h1
      cases v with
      | bool b =>
        simp only [AV.rp] at hv
        refine wp_cond hv ?_
        cases b with
        | true => exact (ih _ _ _ _ _ _ _ _ _ _ _ (show exec P G ora n N x a lo h c0 lg = .ok r h' c' lg' from e) D ρ act w Q hle hr hf hk).1
        | false => exact (ih _ _ _ _ _ _ _ _ _ _ _ (show exec P G ora n N y a lo h c0 lg = .ok r h' c' lg' from e) D ρ act w Q hle hr hf hk).1
      | _ => cases e
    | _ => cases e
/-- A call whose run the kernel has seen. -/
theorem start_run {W : World} {ρ0 : Pm} {G : Nat → Option AV} {ora : Ora} {h0 : Heap} {c0 : Nat} (hG : GlobOK G ρ0) (hN : NamesOK P) (hm : P.follows .mixedOrders = true) (hl : OraLoc ora) (ho : OraSnd P W.heap.size ρ0 ora) (ht : TabSnd P W.heap.size ρ0 ora.tab) {f : FuncId} (hf : ora.fn f = none) {n : Nat} {args : List AV} {vs : Array Value} {x : AV} {h' : Heap} {c' : Nat} {lg' : List Ev} (hr : Rep W.heap.size ρ0 h0 W) (hv : AV.rps ρ0 args vs.toList) (e : callM P ora (exec P G ora n) f args 0 h0 c0 [] = .ok x h' c' lg') :
    Calls P f vs W fun e w' => ∃ ρ v, e = .returned v ∧ ρ0.le ρ ∧ x.rp ρ v ∧ Rep W.heap.size ρ h' w' ∧ Below W.heap.size W w' := by
  rcases callM_snd hN ho (exec_snd hG hN hm hl ho ht n) f args _ _ _ _ _ _ _ _ e ρ0 W vs (Pm.le.refl _) hr hv with ⟨k1, k2⟩ | ⟨ρ', v, w', k1, k2, k3, k4, k5⟩
  · exact k2.mono fun e w' ⟨ρ', v, h1, h2, h3, h4, h5⟩ => ⟨ρ', v, h1, h2, h3, h4, h5⟩
  · rw [callM_none hf] at e
    have e := tag_ok.1 e
    obtain ⟨fn, h1, e⟩ := need_ok e
    obtain ⟨code, h2, e⟩ := need_ok e
    rw [MuLone.run_callFunc_enter h1 (hN f fn code h1 h2) h2] at k1
    cases k1
def isTrueV (x : AV) : Bool := match x with
  | .bool b => b
  | _ => false
noncomputable def saysTrue (r : R AV) : Bool := R.rec (motive := fun _ => Bool) (fun x _ _ _ => isTrueV x) (fun _ => false) r
theorem saysTrue_is {r : R AV} (h : saysTrue r = true) : ∃ h' c' lg', r = .ok (.bool true) h' c' lg' := by
  cases r with
  | bad _ => cases h
  | ok x h' c' lg' =>
    cases x with
    | bool b =>
      cases b with
      | true => exact ⟨_, _, _, rfl⟩
      | false => cases h
    | _ => cases h
def namesB (P : Program) : Bool := P.funcs.toList.all fun fn => fn.body.isNone || !(fn.name == "runtime.NumGoroutine")
theorem namesB_ok (h : namesB P = true) : NamesOK P := fun f fn c hf hb => by
  have := List.all_eq_true.1 h fn (by rw [← Array.getElem?_toList] at hf; exact List.mem_of_getElem? hf)
  rw [hb] at this
  simpa using this
theorem noLoc : OraLoc noOra := fun f g h => by cases h
theorem noSnd {P : Program} {B : Nat} {ρ0 : Pm} : OraSnd P B ρ0 noOra := fun f g h => by cases h
theorem noTab {P : Program} {B : Nat} {ρ0 : Pm} : TabSnd P B ρ0 noOra.tab := fun o args x h => by cases h
theorem noGlob {ρ0 : Pm} : GlobOK (fun _ => none) ρ0 := fun g x h => by cases h
theorem Rep.start {W : World} (hi : Sy.inv W.heap.size W) {F : Fz} (hF : ∀ b i v, F b i = some v → W.cell? ⟨b, i, none⟩ = some v) (hlow : ∀ b i v, F b i = some v → Sy.low b i = some v) (hgh : ∀ b o, Sy.gh b = some o → W.heap[b]? = some o) : Rep W.heap.size ⟨fun _ => none, F⟩ .leaf W := ⟨Nat.le_refl _, fun n hn => (by cases hn), fun n hn => rfl, fun n m b f c f' c' h1 => (by cases h1), hi, hF, fun n b f c h1 => (by cases h1), fun n el sh e h1 => (by cases h1), fun b i v _ h => hlow b i v h, fun b o hb => ⟨hgh b o hb, fun n f c h1 => (by cases h1)⟩⟩
end
end Go.Proofs.YtdflkikhmngfiaaGreatDoor

