/- Code that is run piece by piece. -/
import Derived.Test.YtlpapdknggjfkaaGreatDoorC38
namespace Go.Proofs.YtlpapdknggjfkaaGreatDoor
open Go.RowKit
set_option linter.unusedVariables false
set_option linter.unusedSimpArgs false
set_option linter.unusedSectionVars false
variable [Sy]

def fstC : Code → Code
  | .seq a _ => a
  | c => c
def sndC : Code → Code
  | .seq _ b => b
  | c => c
def opsC : Code → Array Oper
  | .region _ ops _ => ops
  | _ => #[]
def idC : Code → Nat
  | .region id _ _ => id
  | _ => 0
noncomputable def goOn (k : Tr AV → M AV) (r : CR) : M AV := match r.x with
  | .normal => k r.a
  | _ => fail [180]
/-- One operation of a region, by its number. -/
noncomputable def opM (X : Mach) (ops : Array Oper) (i : Nat) (a : Tr AV) : M (Tr AV) := need (ops[i]?) 181 fun o => stp X ops o a
section
variable {P : Program} {B : Nat} {ρ0 : Pm} {G : Nat → Option AV} {ora : Ora}
/-- A piece of code, and what goes on behind it. -/
theorem piece_seq (hG : GlobOK G ρ0) (hN : NamesOK P) (hm : P.follows .mixedOrders = true) (hl : OraLoc ora) (ho : OraSnd P B ρ0 ora) (ht : TabSnd P B ρ0 ora.tab) {n N : Nat} {c d : Code} {a : Tr AV} {k : Tr AV → M AV} {lo : Nat} {h : Heap} {c0 : Nat} {lg : List Ev} {x : AV} {h' : Heap} {c' : Nat} {lg' : List Ev}
    (e : bnd (exec P G ora n N c a) (goOn k) lo h c0 lg = .ok x h' c' lg') {ρ : Pm} {act : Act} {w : World} {Q : Exit → Act → World → Prop} (hle : ρ0.le ρ) (hr : Rep B ρ h w) (hf : Frm ρ N a act)
    (hk : ∀ ρ' act' w' a' h1 c1 lg1, k a' lo h1 c1 lg1 = .ok x h' c' lg' → ρ.le ρ' → Rep B ρ' h1 w' → Frm ρ' N a' act' → Below B w w' → d.wp P Q act' w') : (Code.seq c d).wp P Q act w := by
  obtain ⟨r, h1, c1, lg1, e1, e2⟩ := bnd_ok e
  refine wp_seq (exec_snd hG hN hm hl ho ht n _ _ _ _ _ _ _ _ _ _ _ e1 ρ act w _ hle hr hf fun ρ1 a1 w1 l1 l2 l3 l4 => ?_).1
  unfold goOn at e2
  cases hx : r.x with
  | normal =>
    rw [hx] at e2
    exact hk ρ1 a1 w1 r.a _ _ _ e2 l1 l2 l3 l4
  | exit i => rw [hx] at e2; cases e2
  | ret => rw [hx] at e2; cases e2
  | goto i => rw [hx] at e2; cases e2
/-- The last piece of a function. -/
theorem piece_end (hG : GlobOK G ρ0) (hN : NamesOK P) (hm : P.follows .mixedOrders = true) (hl : OraLoc ora) (ho : OraSnd P B ρ0 ora) (ht : TabSnd P B ρ0 ora.tab) {n N : Nat} {fn : Func} {c : Code} {a : Tr AV} {lo : Nat} {h : Heap} {c0 : Nat} {lg : List Ev} {x : AV} {h' : Heap} {c' : Nat} {lg' : List Ev}
    (e : bnd (exec P G ora n N c a) (endM P fn) lo h c0 lg = .ok x h' c' lg') {ρ : Pm} {act : Act} {w : World} {R : Ending → World → Prop} (hle : ρ0.le ρ) (hr : Rep B ρ h w) (hf : Frm ρ N a act)
    (hk : ∀ ρ' v w', ρ.le ρ' → x.rp ρ' v → Rep B ρ' h' w' → Below B w w' → R (.returned v) w') : c.wp P (bodyPost P fn R) act w := by
  obtain ⟨r, h4, c4, lg4, e1, e2⟩ := bnd_ok e
  refine (exec_snd hG hN hm hl ho ht n _ _ _ _ _ _ _ _ _ _ _ e1 ρ act w _ hle hr hf fun ρ' act' w' l1 l2 l3 l4 => ?_).1
  unfold endM at e2
  have fin : ∀ {lo2 c2 : Nat} {lg2 : List Ev}, bnd (resL P r.a fn.results.toList) (fun l => oneM l) lo2 h4 c2 lg2 = .ok x h' c' lg' → act'.defers = [] ∧ ∃ v, (results fn act'.tmps).run P w' = .ok v w' ∧ R (.returned v) w' := fun e => by
    obtain ⟨m, h5, c5, lg5, e3, e4⟩ := bnd_ok e
    obtain ⟨rfl, us, k1, k2⟩ := resL_snd l2 l3 e3
    obtain ⟨rfl, k3⟩ := oneM_snd e4 k2
    exact ⟨l3.defers, _, results_run k1, hk ρ' _ _ l1 k3 l2 l4⟩
  cases hx : r.x with
  | normal => rw [hx] at e2; exact fin e2
  | ret => rw [hx] at e2; exact fin e2
  | exit i => rw [hx] at e2; cases e2
  | goto i => rw [hx] at e2; cases e2
/-- One operation of a region. -/
theorem piece_op (hG : GlobOK G ρ0) (hN : NamesOK P) (hm : P.follows .mixedOrders = true) (hl : OraLoc ora) (ho : OraSnd P B ρ0 ora) (ht : TabSnd P B ρ0 ora.tab) {n N : Nat} {ops : Array Oper} (hd : dstOK N ops = true) {i : Nat} {l : List Nat} {a : Tr AV} {k : Tr AV → M AV} {lo : Nat} {h : Heap} {c0 : Nat} {lg : List Ev} {x : AV} {h' : Heap} {c' : Nat} {lg' : List Ev}
    (e : bnd (opM ⟨G, exOpT P ora.tab (callM P ora (exec P G ora n))⟩ ops i a) k lo h c0 lg = .ok x h' c' lg') {ρ : Pm} {act : Act} {w : World} {Q : Exit → Act → World → Prop} (hle : ρ0.le ρ) (hr : Rep B ρ h w) (hf : Frm ρ N a act)
    (hk : ∀ ρ' act' w' a' h1 c1 lg1, k a' lo h1 c1 lg1 = .ok x h' c' lg' → ρ.le ρ' → Rep B ρ' h1 w' → Frm ρ' N a' act' → Below B w w' → wpOps P ops Q l act' w') : wpOps P ops Q (i :: l) act w := by
  have hdst : ∀ (i : Nat) (o : Oper), ops[i]? = some o → ∀ d, o.dst = some d → d < N := fun i o ho d hd2 => by
    have := List.all_eq_true.1 hd o (by rw [← Array.getElem?_toList] at ho; exact List.mem_of_getElem? ho)
    rw [hd2] at this
    exact blt_iff.1 this
  have hop : OpSnd P B ρ0 (exOpT P ora.tab (callM P ora (exec P G ora n))) := exOpT_snd (callM_snd hN ho (exec_snd hG hN hm hl ho ht n)) ht
  obtain ⟨r, h1, c1, lg1, e1, e2⟩ := bnd_ok e
  obtain ⟨o, hio, e1⟩ := need_ok e1
  rw [wpOps_cons]
  exact OpSnd.ok hG hop hdst i o hio _ _ _ _ _ _ _ _ _ e1 ρ act w _ Q hle hr hf fun ρ' act' w' l1 l2 l3 l4 => hk ρ' act' w' r _ _ _ e2 l1 l2 l3 l4
end
end Go.Proofs.YtlpapdknggjfkaaGreatDoor

