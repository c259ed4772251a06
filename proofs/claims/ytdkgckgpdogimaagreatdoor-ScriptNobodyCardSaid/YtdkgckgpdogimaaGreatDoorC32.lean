/- EySq · VyA · EyDf · SyA: joined by a program, for a claim has at most 60 files. -/
import Derived.Test.YtdkgckgpdogimaaGreatDoorC28
import Derived.Test.YtdkgckgpdogimaaGreatDoorC29
import Derived.Test.YtdkgckgpdogimaaGreatDoorC31
import Derived.Defers
/- Code that is run piece by piece. -/
namespace Go.Proofs.YtdkgckgpdogimaaGreatDoor
open Go.RowKit
set_option linter.unusedVariables false
set_option linter.unusedSimpArgs false
set_option linter.unusedSectionVars false
variable [Sy] [Dc] [DcOK]

def fstC : Code → Code
  | .seq a _ => a
  | c => c
def sndC : Code → Code
  | .seq _ b => b
  | c => c
def opsC : Code → Array Oper
  | .region _ ops _ => ops
  | _ => #[]
def idC : Code → Nat
  | .region id _ _ => id
  | _ => 0
noncomputable def goOn (k : Tr AV → M AV) (r : CR) : M AV := match r.x with
  | .normal => k r.a
  | _ => fail [180]
/-- One operation of a region, by its number. -/
noncomputable def opM (X : Mach) (ops : Array Oper) (i : Nat) (a : Tr AV) : M (Tr AV) := need (ops[i]?) 181 fun o => stp X ops o a
section
variable {D : List Deferred} {P : Program} {B : Nat} {ρ0 : Pm} {G : Nat → Option AV} {ora : Ora}
/-- A piece of code, and what goes on behind it. -/
theorem piece_seq (hG : GlobOK G ρ0) (hN : NamesOK P) (hm : P.follows .mixedOrders = true) (hl : OraLoc ora) (ho : OraSnd P B ρ0 ora) (ht : TabSnd P B ρ0 ora.tab) {n N : Nat} {c d : Code} {a : Tr AV} {k : Tr AV → M AV} {lo : Nat} {h : Heap} {c0 : Nat} {lg : List Ev} {x : AV} {h' : Heap} {c' : Nat} {lg' : List Ev}
    (e : bnd (exec P G ora n N c a) (goOn k) lo h c0 lg = .ok x h' c' lg') {ρ : Pm} {act : Act} {w : World} {Q : Exit → Act → World → Prop} (hle : ρ0.le ρ) (hr : Rep B ρ h w) (hf : Frm D ρ N a act)
    (hk : ∀ ρ' act' w' a' h1 c1 lg1, k a' lo h1 c1 lg1 = .ok x h' c' lg' → ρ.le ρ' → Rep B ρ' h1 w' → Frm D ρ' N a' act' → Below B w w' → d.wp P Q act' w') : (Code.seq c d).wp P Q act w := by
  obtain ⟨r, h1, c1, lg1, e1, e2⟩ := bnd_ok e
  refine wp_seq (exec_snd hG hN hm hl ho ht n _ _ _ _ _ _ _ _ _ _ _ e1 D ρ act w _ hle hr hf fun ρ1 a1 w1 l1 l2 l3 l4 => ?_).1
  unfold goOn at e2
  cases hx : r.x with
  | normal =>
    rw [hx] at e2
    exact hk ρ1 a1 w1 r.a _ _ _ e2 l1 l2 l3 l4
  | exit i => rw [hx] at e2; cases e2
  | ret => rw [hx] at e2; cases e2
  | goto i => rw [hx] at e2; cases e2
/-- The last piece of a function. -/
theorem piece_end (hG : GlobOK G ρ0) (hN : NamesOK P) (hm : P.follows .mixedOrders = true) (hl : OraLoc ora) (ho : OraSnd P B ρ0 ora) (ht : TabSnd P B ρ0 ora.tab) {n N : Nat} {fn : Func} {c : Code} {a : Tr AV} {lo : Nat} {h : Heap} {c0 : Nat} {lg : List Ev} {x : AV} {h' : Heap} {c' : Nat} {lg' : List Ev}
    (e : bnd (exec P G ora n N c a) (endM P fn) lo h c0 lg = .ok x h' c' lg') {ρ : Pm} {act : Act} {w : World} {R : Ending → World → Prop} (hle : ρ0.le ρ) (hr : Rep B ρ h w) (hf : Frm [] ρ N a act)
    (hk : ∀ ρ' v w', ρ.le ρ' → x.rp ρ' v → Rep B ρ' h' w' → Below B w w' → R (.returned v) w') : c.wp P (bodyPost P fn R) act w := by
  obtain ⟨r, h4, c4, lg4, e1, e2⟩ := bnd_ok e
  refine (exec_snd hG hN hm hl ho ht n _ _ _ _ _ _ _ _ _ _ _ e1 [] ρ act w _ hle hr hf fun ρ' act' w' l1 l2 l3 l4 => ?_).1
  unfold endM at e2
  have fin : ∀ {lo2 c2 : Nat} {lg2 : List Ev}, bnd (resL P r.a fn.results.toList) (fun l => oneM l) lo2 h4 c2 lg2 = .ok x h' c' lg' → act'.defers = [] ∧ ∃ v, (results fn act'.tmps).run P w' = .ok v w' ∧ R (.returned v) w' := fun e => by
    obtain ⟨m, h5, c5, lg5, e3, e4⟩ := bnd_ok e
    obtain ⟨rfl, us, k1, k2⟩ := resL_snd l2 l3 e3
    obtain ⟨rfl, k3⟩ := oneM_snd e4 k2
    exact ⟨l3.defers, _, results_run k1, hk ρ' _ _ l1 k3 l2 l4⟩
  cases hx : r.x with
  | normal => rw [hx] at e2; exact fin e2
  | ret => rw [hx] at e2; exact fin e2
  | exit i => rw [hx] at e2; cases e2
  | goto i => rw [hx] at e2; cases e2
/-- One operation of a region. -/
theorem piece_op (hG : GlobOK G ρ0) (hN : NamesOK P) (hm : P.follows .mixedOrders = true) (hl : OraLoc ora) (ho : OraSnd P B ρ0 ora) (ht : TabSnd P B ρ0 ora.tab) {n N : Nat} {ops : Array Oper} (hd : dstOK N ops = true) {i : Nat} {l : List Nat} {a : Tr AV} {k : Tr AV → M AV} {lo : Nat} {h : Heap} {c0 : Nat} {lg : List Ev} {x : AV} {h' : Heap} {c' : Nat} {lg' : List Ev}
    (e : bnd (opM ⟨G, exOpT P ora.tab (callM P ora (exec P G ora n))⟩ ops i a) k lo h c0 lg = .ok x h' c' lg') {ρ : Pm} {act : Act} {w : World} {Q : Exit → Act → World → Prop} (hle : ρ0.le ρ) (hr : Rep B ρ h w) (hf : Frm D ρ N a act)
    (hk : ∀ ρ' act' w' a' h1 c1 lg1, k a' lo h1 c1 lg1 = .ok x h' c' lg' → ρ.le ρ' → Rep B ρ' h1 w' → Frm D ρ' N a' act' → Below B w w' → wpOps P ops Q l act' w') : wpOps P ops Q (i :: l) act w := by
  have hdst : ∀ (i : Nat) (o : Oper), ops[i]? = some o → ∀ d, o.dst = some d → d < N := fun i o ho d hd2 => by
    have := List.all_eq_true.1 hd o (by rw [← Array.getElem?_toList] at ho; exact List.mem_of_getElem? ho)
    rw [hd2] at this
    exact blt_iff.1 this
  have hop : OpSnd P B ρ0 (exOpT P ora.tab (callM P ora (exec P G ora n))) := exOpT_snd (callM_snd hN ho (exec_snd hG hN hm hl ho ht n)) ht
  obtain ⟨r, h1, c1, lg1, e1, e2⟩ := bnd_ok e
  obtain ⟨o, hio, e1⟩ := need_ok e1
  rw [wpOps_cons]
  exact OpSnd.ok hG hop hdst i o hio _ _ _ _ _ _ _ _ _ e1 D ρ act w _ Q hle hr hf fun ρ' act' w' l1 l2 l3 l4 => hk ρ' act' w' r _ _ _ e2 l1 l2 l3 l4
end
end Go.Proofs.YtdkgckgpdogimaaGreatDoor


/- What the server finds when awake: by the machine. -/
namespace Go.Proofs.YtdkgckgpdogimaaGreatDoor
open Go.RowKit
set_option linter.unusedVariables false
set_option linter.unusedSimpArgs false

theorem prog_names : namesB Tryz.prog = true := by kernel_rfl
theorem prog_mixed : (Tryz.prog).follows .mixedOrders = true := by kernel_rfl

noncomputable def svF (f : FuncId) : Option (List AV → M AV) :=
  bif Nat.beq f 169 then some itoaM else bif Nat.beq f 193 then some grM else bif Nat.beq f 384 then some idxM else none
theorem svF_cases {f : FuncId} {g : List AV → M AV} (h : svF f = some g) : (f = 169 ∧ g = itoaM) ∨ (f = 193 ∧ g = grM) ∨ (f = 384 ∧ g = idxM) := by
  unfold svF at h
  cases h1 : Nat.beq f 169 with
  | true => rw [h1] at h; injection h with h; exact .inl ⟨Nat.eq_of_beq_eq_true h1, h.symm⟩
  | false =>
    rw [h1] at h
    cases h2 : Nat.beq f 193 with
    | true => rw [h2] at h; injection h with h; exact .inr (.inl ⟨Nat.eq_of_beq_eq_true h2, h.symm⟩)
    | false =>
      rw [h2] at h
      cases h3 : Nat.beq f 384 with
      | true => rw [h3] at h; injection h with h; exact .inr (.inr ⟨Nat.eq_of_beq_eq_true h3, h.symm⟩)
      | false => rw [h3] at h; cases h
noncomputable def svOra : Ora := ⟨svF, fun _ _ => .no⟩
theorem svF_loc [Sy] [Dc] [DcOK] {f : FuncId} {g : List AV → M AV} (h : svF f = some g) (args : List AV) : Loc (g args) := by
  rcases svF_cases h with ⟨_, rfl⟩ | ⟨_, rfl⟩ | ⟨_, rfl⟩
  · exact loc_itoaM args
  · exact loc_grM args
  · exact loc_idxM args
theorem svF_snd [Sy] [Dc] [DcOK] {B : Nat} {f : FuncId} {g : List AV → M AV} (h : svF f = some g) {args : List AV} {lo : Nat} {hp : Heap} {c : Nat} {lg : List Ev} {x : AV} {h' : Heap} {c' : Nat} {lg' : List Ev} (e : g args lo hp c lg = .ok x h' c' lg') {ρ : Pm} {w : World} {vs : Array Value}
    (hT : Tab w) (hr : Rep B ρ hp w) (hv : AV.rps ρ args vs.toList) : CallRes Tryz.prog B f vs ρ w x h' := by
  have hN := namesB_ok prog_names
  rcases svF_cases h with ⟨rfl, rfl⟩ | ⟨rfl, rfl⟩ | ⟨rfl, rfl⟩
  · exact itoaM_snd e hT hr hv hN
  · exact grM_snd e hr hv hN
  · exact idxM_snd Tryz.func384 (by kernel_rfl) (by kernel_rfl) (by kernel_rfl) (by kernel_rfl) e hr hv
end Go.Proofs.YtdkgckgpdogimaaGreatDoor


/- A function whose code defers one call. -/
namespace Go.Proofs.YtdkgckgpdogimaaGreatDoor
open Go.RowKit
set_option linter.unusedVariables false
set_option linter.unusedSimpArgs false
set_option linter.unusedSectionVars false
variable [Sy] [Dc] [DcOK]

/-- A deferred call's run behind the code. -/
noncomputable def dfrK (P : Program) (ora : Ora) (ex : Nat → Code → Tr AV → M CR) (f : FuncId) (args : List AV) (r : CR) : M AV := match r.x with
  | .normal => bnd (callM P ora ex f args) fun _ => ret (.tup [])
  | .ret => bnd (callM P ora ex f args) fun _ => ret (.tup [])
  | _ => fail [190]
section
variable {P : Program} {B : Nat} {ρ0 : Pm} {G : Nat → Option AV} {ora : Ora}
theorem callD_snd (hG : GlobOK G ρ0) (hN : NamesOK P) (hm : P.follows .mixedOrders = true) (hl : OraLoc ora) (ho : OraSnd P B ρ0 ora) (ht : TabSnd P B ρ0 ora.tab) {n : Nat} {f : FuncId} (hf : ora.fn f = none) {args : List AV} {lo : Nat} {h : Heap} {c : Nat} {lg : List Ev} {x : AV} {h' : Heap} {c' : Nat} {lg' : List Ev}
    (e : callM P ora (exec P G ora n) f args lo h c lg = .ok x h' c' lg') {ρ : Pm} {w : World} {vs : Array Value} (hle : ρ0.le ρ) (hr : Rep B ρ h w) (hv : AV.rps ρ args vs.toList) (u : FrameMode) :
    (callFunc f vs).run P w = .ok (.enter f vs) w ∧ CallsD P f vs u w fun e u' w' => u' = u ∧ ∃ ρ' v, e = .returned v ∧ ρ.le ρ' ∧ x.rp ρ' v ∧ Rep B ρ' h' w' ∧ Below B w w' := by
  rw [callM_none hf] at e
  have e := tag_ok.1 e
  obtain ⟨fn, h1, e⟩ := need_ok e
  obtain ⟨code, h2, e⟩ := need_ok e
  obtain ⟨h3, e⟩ := want_ok e
  rw [Nat.ble_eq, lenL_eq] at h3
  refine ⟨MuLone.run_callFunc_enter h1 (hN f fn code h1 h2) h2 vs w, ?_⟩
  refine callsD_of_wp h1 h2 (R := fun e w' => ∃ ρ' v, e = .returned v ∧ ρ.le ρ' ∧ x.rp ρ' v ∧ Rep B ρ' h' w' ∧ Below B w w') ?_
  exact piece_end hG hN hm hl ho ht e hle hr (Frm.start hv h3) fun ρ' v w' l1 l2 l3 l4 => ⟨ρ', v, rfl, l1, l2, l3, l4⟩
theorem defer_end (hG : GlobOK G ρ0) (hN : NamesOK P) (hm : P.follows .mixedOrders = true) (hl : OraLoc ora) (ho : OraSnd P B ρ0 ora) (ht : TabSnd P B ρ0 ora.tab) {n N : Nat} {fn : Func} {c : Code} {a : Tr AV} {fd : FuncId} (hfd : ora.fn fd = none) {da : List AV} {dvs cap : Array Value} {lo : Nat} {h : Heap} {c0 : Nat} {lg : List Ev} {x : AV} {h' : Heap} {c' : Nat} {lg' : List Ev}
    (e : bnd (exec P G ora n N c a) (dfrK P ora (exec P G ora n) fd da) lo h c0 lg = .ok x h' c' lg') {ρ : Pm} {act : Act} {w : World} {R : Ending → World → Prop} (hres : fn.results = #[]) (hle : ρ0.le ρ) (hr : Rep B ρ h w) (hf : Frm [{ target := .fn (.func fd) cap, args := dvs }] ρ N a act) (hd : AV.rps ρ da (dvs ++ cap).toList)
    (hk : ∀ ρ' w', ρ.le ρ' → Rep B ρ' h' w' → Below B w w' → R (.returned (.tuple #[])) w') : c.wp P (bodyPostD P fn R) act w ∧ x = .tup [] := by
  obtain ⟨r, h1, c1, lg1, e1, e2⟩ := bnd_ok e
  have fin : ∀ {lo2 c2 : Nat} {lg2 : List Ev}, bnd (callM P ora (exec P G ora n) fd da) (fun _ => ret (.tup [])) lo2 h1 c2 lg2 = .ok x h' c' lg' → x = .tup [] ∧ ∀ ρ' act' w', ρ.le ρ' → Rep B ρ' h1 w' → Frm [{ target := .fn (.func fd) cap, args := dvs }] ρ' N r.a act' → Below B w w' → Leaves P fn act'.tmps R act'.defers .returning w' := fun e => by
    obtain ⟨y, h2, c2, lg2, e3, e4⟩ := bnd_ok e
    obtain ⟨rfl, rfl, _, _⟩ := ret_ok e4
    refine ⟨rfl, fun ρ' act' w' l1 l2 l3 l4 => ?_⟩
    rw [l3.defers]
    obtain ⟨k1, k2⟩ := callD_snd hG hN hm hl ho ht hfd e3 (hle.trans l1) l2 (hd.mono l1) .returning
    refine leaves_cons (by simp) (show (invoke (.fn (.func fd) cap) dvs).run P w' = .ok (.enter fd (dvs ++ cap)) w' from k1) (k2.mono fun e u' w2 ⟨hu, ρ2, v, he, m1, m2, m3, m4⟩ => ?_)
    subst hu he
    show Leaves P fn act'.tmps R [] (settle .returning) w2
    exact ⟨.tuple #[], by simp [results, hres], hk ρ2 w2 (l1.trans m1) m3 (l4.trans m4)⟩
  unfold dfrK at e2
  cases hx : r.x with
  | normal =>
    rw [hx] at e2
    obtain ⟨f1, f2⟩ := fin e2
    refine ⟨(exec_snd hG hN hm hl ho ht n _ _ _ _ _ _ _ _ _ _ _ e1 _ ρ act w _ hle hr hf fun ρ' act' w' l1 l2 l3 l4 => ?_).1, f1⟩
    rw [hx]
    exact f2 ρ' act' w' l1 l2 l3 l4
  | ret =>
    rw [hx] at e2
    obtain ⟨f1, f2⟩ := fin e2
    refine ⟨(exec_snd hG hN hm hl ho ht n _ _ _ _ _ _ _ _ _ _ _ e1 _ ρ act w _ hle hr hf fun ρ' act' w' l1 l2 l3 l4 => ?_).1, f1⟩
    rw [hx]
    exact f2 ρ' act' w' l1 l2 l3 l4
  | exit i => rw [hx] at e2; cases e2
  | goto i => rw [hx] at e2; cases e2
end
end Go.Proofs.YtdkgckgpdogimaaGreatDoor


/- What the script finds when awake: by the machine; client.settings, which defers a call, by hand. -/
namespace Go.Proofs.YtdkgckgpdogimaaGreatDoor
open Go.RowKit
set_option linter.unusedVariables false
set_option linter.unusedSimpArgs false

noncomputable def stF : Func := Tryz.f255
noncomputable def stB : Code := stF.body.getD .skip
noncomputable def stR : Code := sndC stB
noncomputable def stOps : Array Oper := opsC (fstC stB)
theorem st_body : stF.body = some stB := by kernel_rfl
theorem st_c0 : stB = .seq (.region (idC (fstC stB)) stOps false) stR := by kernel_rfl
theorem st_size : stOps.size = 3 := by kernel_rfl
theorem st_op2 : (stOps[2]?).map (fun o => (o.dst, o.guard, o.op)) = some (none, none, .defer ⟨.value (.func 256), #[.tmp 6, .tmp 7], #[253, 144]⟩) := by kernel_rfl
theorem st_res : stF.results = #[] := by kernel_rfl
theorem st_nt : stF.ntmps = 25 := by kernel_rfl
section
variable [Dc]
noncomputable def stX : Mach := ⟨fun _ => none, exOpT Tryz.prog svOra.tab (callM Tryz.prog svOra (exec Tryz.prog (fun _ => none) svOra 400))⟩
noncomputable def setM (args : List AV) : M AV :=
  want (Nat.ble (lenL args) 25) 180 <| want (dstOK 25 stOps) 181 <| bnd (opM stX stOps 0 (Tr.fill args 0 (blank 25))) fun a => bnd (opM stX stOps 1 a) fun a => need (a.get 6) 182 fun x => need (a.get 7) 183 fun y =>
  bnd (exec Tryz.prog (fun _ => none) svOra 400 25 stR a) (dfrK Tryz.prog svOra (exec Tryz.prog (fun _ => none) svOra 400) 256 [x, y])
noncomputable def scF (f : FuncId) : Option (List AV → M AV) := bif Nat.beq f 255 then some setM else svF f
noncomputable def scOra : Ora := ⟨scF, fun _ _ => .no⟩
theorem sv_loc [Sy] [DcOK] : OraLoc svOra := fun f g h args => svF_loc h args
theorem loc_setM [Sy] [DcOK] (args : List AV) : Loc (setM args) := by
  have hx : ∀ n N c a, Loc (exec Tryz.prog (fun _ => none) svOra n N c a) := fun n N c a => loc_exec sv_loc n N c a
  have hc : ∀ f args, Loc (callM Tryz.prog svOra (exec Tryz.prog (fun _ => none) svOra 400) f args) := fun f args => loc_callM sv_loc (fun N c a => hx 400 N c a) f args
  have ho : ∀ i a, Loc (opM stX stOps i a) := fun i a => Loc.need _ _ fun o => Loc.stp (fun o args => (show Loc (exOpT Tryz.prog svOra.tab (callM Tryz.prog svOra (exec Tryz.prog (fun _ => none) svOra 400)) o args) from loc_exOpT hc o args)) stOps o a
  refine Loc.want _ _ (Loc.want _ _ (Loc.bnd (ho 0 _) fun a => Loc.bnd (ho 1 a) fun a => Loc.need _ _ fun x => Loc.need _ _ fun y => Loc.bnd (hx _ _ _ _) fun r => ?_))
  unfold dfrK
  split
  · exact Loc.bnd (hc _ _) fun _ => Loc.ret _
  · exact Loc.bnd (hc _ _) fun _ => Loc.ret _
  · exact Loc.fail _
section
variable [Sy] [DcOK]
theorem setM_snd {B : Nat} {args : List AV} {lo : Nat} {h : Heap} {c : Nat} {lg : List Ev} {x : AV} {h' : Heap} {c' : Nat} {lg' : List Ev} (e : setM args lo h c lg = .ok x h' c' lg') (hi : ∀ B w, Sy.inv B w → Tab w) {ρ0 ρ : Pm} {w : World} {vs : Array Value} (hle : ρ0.le ρ) (hr : Rep B ρ h w) (hv : AV.rps ρ args vs.toList) : CallRes Tryz.prog B 255 vs ρ w x h' := by
  have hN := namesB_ok prog_names
  have ho : OraSnd Tryz.prog B ρ svOra := fun f g h args lo hp c lg x h' c' lg' e ρ w vs _ hr hv => svF_snd h e (hi B w hr.inv) hr hv
  have hG : GlobOK (fun _ => none) ρ := noGlob
  obtain ⟨h3, e⟩ := want_ok e
  obtain ⟨hd, e⟩ := want_ok e
  rw [Nat.ble_eq, lenL_eq] at h3
  refine .inl ⟨MuLone.run_callFunc_enter Tryz.func255 (hN _ _ _ Tryz.func255 st_body) st_body _ w, ?_⟩
  refine calls_of_wp_defers Tryz.func255 st_body ?_
  have hnt : (Tryz.f255).ntmps = 25 := st_nt
  have hf0 : Frm [] ρ 25 (Tr.fill args 0 (blank 25)) { tmps := vs ++ Array.replicate (25 - vs.size) undef, defers := [] } := Frm.start hv h3
  rw [hnt, st_c0]
  refine wp_seq (wp_region ?_)
  rw [st_size]
  show wpOps _ _ _ [0, 1, 2] _ _
  refine piece_op hG hN prog_mixed sv_loc ho noTab hd e (Pm.le.refl ρ) hr hf0 fun ρ1 x1 w1 a1 h1 c1 lg1 e1 l1 r1 f1 b1 => ?_
  refine piece_op hG hN prog_mixed sv_loc ho noTab hd e1 l1 r1 f1 fun ρ2 x2 w2 a2 h2 c2 lg2 e2 l2 r2 f2 b2 => ?_
  obtain ⟨y6, g6, e2⟩ := need_ok e2
  obtain ⟨y7, g7, e2⟩ := need_ok e2
  obtain ⟨v6, k1, k2⟩ := f2.slot 6 _ g6
  obtain ⟨v7, k3, k4⟩ := f2.slot 7 _ g7
  obtain ⟨o2, q3, q4⟩ := Option.map_eq_some_iff.1 st_op2
  obtain ⟨dst3, op3, ty3, pos3, af3, gd3⟩ := o2
  simp only [Prod.mk.injEq] at q4
  obtain ⟨rfl, rfl, rfl⟩ := q4
  have ev6 : x2.eval (.tmp 6) = v6 := by
    show x2.tmps.getD 6 undef = _
    rw [Array.getD_eq_getD_getElem?, k1]
    rfl
  have ev7 : x2.eval (.tmp 7) = v7 := by
    show x2.tmps.getD 7 undef = _
    rw [Array.getD_eq_getD_getElem?, k3]
    rfl
  rw [wpOps_cons]
  unfold wpOp
  simp only [q3]
  rw [if_pos (by rfl)]
  refine .inl ?_
  unfold Oper.wp
  have hrun : (execOp x2.eval ⟨none, .defer ⟨.value (.func 256), #[.tmp 6, .tmp 7], #[253, 144]⟩, ty3, pos3, af3, none⟩).run Tryz.prog w2 = .ok (.defer { target := .fn (.func 256) #[], args := #[v6, v7] }) w2 := by
    rw [← ev6, ← ev7]
    simp [execOp, resolve, Deferred.ofValue, Act.eval]
  rw [hrun, Oper.upon_defer]
  show Code.wp _ _ _ _ _
  have f3 : Frm [{ target := .fn (.func 256) #[], args := #[v6, v7] }] ρ2 25 a2 ({ x2 with defers := { target := .fn (.func 256) #[], args := #[v6, v7] } :: x2.defers }.put none undef) := ⟨by rw [show x2.defers = [] from f2.defers]; rfl, f2.size, f2.slot⟩
  obtain ⟨m1, rfl⟩ := defer_end (fn := Tryz.f255) (R := fun e w' => ∃ ρ' v, e = .returned v ∧ ρ.le ρ' ∧ x.rp ρ' v ∧ Rep B ρ' h' w' ∧ Below B w w') hG hN prog_mixed sv_loc ho noTab (fd := 256) (by kernel_rfl) e2 st_res (l1.trans l2) r2 f3 (by exact rps_cons.2 ⟨v6, [v7], rfl, k2, rps_cons.2 ⟨v7, [], rfl, k4, rps_nil.2 rfl⟩⟩) fun ρ3 w3 l3 r3 b3 => by
    refine ⟨ρ3, .tuple #[], rfl, l1.trans (l2.trans l3), ?_, r3, b1.trans (b2.trans b3)⟩
    obtain ⟨_, rfl⟩ := defer_end (fn := Tryz.f255) (R := fun _ _ => True) hG hN prog_mixed sv_loc ho noTab (fd := 256) (by kernel_rfl) e2 st_res (l1.trans l2) r2 f3 (by exact rps_cons.2 ⟨v6, [v7], rfl, k2, rps_cons.2 ⟨v7, [], rfl, k4, rps_nil.2 rfl⟩⟩) fun _ _ _ _ _ => trivial
    simp only [AV.rp]
    exact ⟨#[], rfl, rps_nil.2 rfl⟩
  exact m1
theorem scF_snd {B : Nat} {f : FuncId} {g : List AV → M AV} (h : scF f = some g) (hi : ∀ B w, Sy.inv B w → Tab w) {args : List AV} {lo : Nat} {hp : Heap} {c : Nat} {lg : List Ev} {x : AV} {h' : Heap} {c' : Nat} {lg' : List Ev} (e : g args lo hp c lg = .ok x h' c' lg') {ρ : Pm} {w : World} {vs : Array Value}
    (hr : Rep B ρ hp w) (hv : AV.rps ρ args vs.toList) : CallRes Tryz.prog B f vs ρ w x h' := by
  unfold scF at h
  cases h1 : Nat.beq f 255 with
  | true =>
    rw [h1] at h
    injection h with h
    subst h
    obtain rfl := Nat.eq_of_beq_eq_true h1
    exact setM_snd e hi (Pm.le.refl ρ) hr hv
  | false =>
    rw [h1] at h
    exact svF_snd (show svF f = some g from h) e (hi B w hr.inv) hr hv
end
theorem scF_loc [Sy] [DcOK] {f : FuncId} {g : List AV → M AV} (h : scF f = some g) (args : List AV) : Loc (g args) := by
  unfold scF at h
  cases h1 : Nat.beq f 255 with
  | true =>
    rw [h1] at h
    injection h with h
    subst h
    exact loc_setM args
  | false =>
    rw [h1] at h
    exact svF_loc (show svF f = some g from h) args
end
end Go.Proofs.YtdkgckgpdogimaaGreatDoor

