/- SyD · SyE · SyF: joined by a program, for a claim has at most 60 files. -/
import Derived.Test.YtdkgckgpdogimaaGreatDoorC42
/- What the script finds when awake: the pieces joined. -/
namespace Go.Proofs.YtdkgckgpdogimaaGreatDoor
open Go.RowKit
set_option linter.unusedVariables false
set_option linter.unusedSimpArgs false
set_option linter.unusedSectionVars false

theorem w08_body : w08F.body = some w08B := by kernel_rfl
theorem w08_nt : w08F.ntmps = 22 := by kernel_rfl
theorem w08_d3 : dropC 3 w08B = some (.seq (.block 0 (.loop w08X)) w08Y) := by kernel_rfl
theorem w08_dX : dropC 1000 w08X = none := by kernel_rfl
theorem w08_end : chkP Tryz.prog scO 100000 22 1000 w08Y s4 w08F [.sh (.int .i64)] [] (.leaf (.fin (.int 3))) [] = true := by kernel_rfl
theorem w08_endS : chkP Tryz.prog scO 100000 22 1 w08Y s4 w08F [.sh (.int .i64)] [(.normal, ⟨[(4, .int .i64 3)], s4.h, s4.c⟩)] (.leaf (.at 0 [] s4_r)) [] = true := by kernel_rfl
theorem w08_dY : dropC 1 w08Y = some .ret := by kernel_rfl
theorem w08_res : w08F.results = #[.tmp 4] := by kernel_rfl
section
variable [S : Sy] [Dc] [DcOK]
theorem impl_w : impl [] w32a_r (.ptr 23 0) (.ptr 23 0) = true ∧ impl [] s0_r (.ptr 23 0) (.ptr 23 0) = true ∧ impl [] s1_r (.ptr 23 0) (.ptr 23 0) = true ∧ impl [] s2_r (.ptr 23 0) (.ptr 23 0) = true ∧ impl [] s3_r (.ptr 23 0) (.ptr 23 0) = true ∧ impl [] s4_r (.ptr 23 0) (.ptr 23 0) = true := ⟨by kernel_rfl, by kernel_rfl, by kernel_rfl, by kernel_rfl, by kernel_rfl, by kernel_rfl⟩
theorem impl_a : impl [] w32a_r (.os 279 6 0 4) (.os 279 6 0 4) = true ∧ impl [] s0_r (.os 279 6 0 4) (.os 279 6 0 4) = true ∧ impl [] s1_r (.os 279 6 0 4) (.os 279 6 0 4) = true ∧ impl [] s2_r (.os 279 6 0 4) (.os 279 6 0 4) = true ∧ impl [] s3_r (.os 279 6 0 4) (.os 279 6 0 4) = true ∧ impl [] s4_r (.os 279 6 0 4) (.os 279 6 0 4) = true := ⟨by kernel_rfl, by kernel_rfl, by kernel_rfl, by kernel_rfl, by kernel_rfl, by kernel_rfl⟩
theorem impl_f : impl [] w32a_r (.os 281 1 0 4) (.os 281 1 0 4) = true ∧ impl [] s0_r (.os 281 1 0 4) (.os 281 1 0 4) = true ∧ impl [] s1_r (.os 281 1 0 4) (.os 281 1 0 4) = true ∧ impl [] s2_r (.os 281 1 0 4) (.os 281 1 0 4) = true ∧ impl [] s3_r (.os 281 1 0 4) (.os 281 1 0 4) = true ∧ impl [] s4_r (.os 281 1 0 4) (.os 281 1 0 4) = true := ⟨by kernel_rfl, by kernel_rfl, by kernel_rfl, by kernel_rfl, by kernel_rfl, by kernel_rfl⟩
/-- What the calling function holds, told on. -/
def Keeps (ρ ρ' : Pm) : Prop := ∀ x : AV, x = .ptr 23 0 ∨ x = .os 279 6 0 4 ∨ x = .os 281 1 0 4 → ∀ v, x.rp ρ v → x.rp ρ' v
theorem keeps_of {r : List (Nat × Nat)} (h1 : impl [] r (.ptr 23 0) (.ptr 23 0) = true) (h2 : impl [] r (.os 279 6 0 4) (.os 279 6 0 4) = true) (h3 : impl [] r (.os 281 1 0 4) (.os 281 1 0 4) = true) {ρ ρ1 : Pm} (hle : ρ.le ρ1) : Keeps ρ (rnP r ρ1) := fun x hx v hv => by
  rcases hx with rfl | rfl | rfl
  · exact ext_keep hv hle h1
  · exact ext_keep hv hle h2
  · exact ext_keep hv hle h3
theorem Keeps.trans {a b c : Pm} (h : Keeps a b) (k : Keeps b c) : Keeps a c := fun x hx v hv => k x hx v (h x hx v hv)
/-- All settles, in three rounds. -/
theorem settle_ran (hi : ∀ B w, Sy.inv B w → Tab w) {B : Nat} {ρ : Pm} {w : World} {v : Value} (hr : Rep B ρ w32a.hp w) (hv : (AV.ptr 23 0).rp ρ v) : Calls Tryz.prog 8 #[v, .int .i64 9] w fun e w' => ∃ ρ', e = .returned (.int .i64 3) ∧ Keeps ρ ρ' ∧ Rep B ρ' w32c.hp w' ∧ Below B w w' := by
  have hN := namesB_ok prog_names
  have hO := sc_ok (S := S) hi (B := B)
  have hf : Frm [] ρ 22 w08S.fr { tmps := #[v, .int .i64 9] ++ Array.replicate 20 undef, defers := [] } := by
    refine ⟨rfl, by simp, fun t x hx => ?_⟩
    have hm := putL_some hx
    simp only [w08S, List.mem_cons, Prod.mk.injEq, List.not_mem_nil, or_false] at hm
    rcases hm with ⟨rfl, rfl⟩ | ⟨rfl, rfl⟩
    · exact ⟨v, by simp, hv⟩
    · exact ⟨.int .i64 9, by simp, by simp only [AV.rp]⟩
  refine calls_of_wp (P := Tryz.prog) (fn := w08F) Tryz.func8 w08_body ?_
  rw [w08_nt]
  refine piece_closed (s := w08S) hN prog_mixed hO hr hf w08_0 fun ρ0 a0 w0 l0 r0 f0 b0 => ?_
  have k0 := keeps_of impl_w.2.1 impl_a.2.1 impl_f.2.1 l0
  rw [w08_d3]
  show Code.wp _ _ _ _ _
  refine wp_seq (wp_block (wp_loop_rounds 4 ?_))
  have dx : ∀ {Q : Exit → Act → World → Prop} {e a w}, restQ Tryz.prog Q (dropC 1000 w08X) e a w = Q e a w := fun {Q e a w} => by
    rw [w08_dX]; unfold restQ; cases e <;> rfl
  rw [rounds_succ]
  refine piece_closed hN prog_mixed hO r0 f0 w08_1 fun ρ1 a1 w1 l1 r1 f1 b1 => ?_
  have k1 := keeps_of impl_w.2.2.1 impl_a.2.2.1 impl_f.2.2.1 l1
  rw [dx]
  show Code.rounds _ _ _ 3 _ _
  rw [rounds_succ]
  refine piece_closed hN prog_mixed hO r1 f1 w08_2 fun ρ2 a2 w2 l2 r2 f2 b2 => ?_
  have k2 := keeps_of impl_w.2.2.2.1 impl_a.2.2.2.1 impl_f.2.2.2.1 l2
  rw [dx]
  show Code.rounds _ _ _ 2 _ _
  rw [rounds_succ]
  refine piece_closed hN prog_mixed hO r2 f2 w08_3 fun ρ3 a3 w3 l3 r3 f3 b3 => ?_
  have k3 := keeps_of impl_w.2.2.2.2.1 impl_a.2.2.2.2.1 impl_f.2.2.2.2.1 l3
  rw [dx]
  show Code.rounds _ _ _ 1 _ _
  rw [rounds_succ]
  refine piece_closed hN prog_mixed hO r3 f3 w08_4 fun ρ4 a4 w4 l4 r4 f4 b4 => ?_
  have k4 := keeps_of impl_w.2.2.2.2.2 impl_a.2.2.2.2.2 impl_f.2.2.2.2.2 l4
  rw [dx]
  show Code.wp _ _ _ _ _
  refine piece_closed hN prog_mixed hO r4 f4 w08_endS fun ρ5 a5 w5 l5 r5 f5 b5 => ?_
  have k5 := keeps_of impl_w.2.2.2.2.2 impl_a.2.2.2.2.2 impl_f.2.2.2.2.2 l5
  rw [w08_dY]
  show Code.wp _ _ _ _ _
  refine wp_ret ?_
  obtain ⟨u, g1, g2⟩ := f5.slot 4 (.int .i64 3) (by show Tr.get (putL [(4, AV.int .i64 3)]) 4 = _; rfl)
  simp only [AV.rp] at g2
  subst g2
  refine ⟨f5.defers, .int .i64 3, ?_, rnP s4_r ρ5, rfl, k0.trans (k1.trans (k2.trans (k3.trans (k4.trans k5)))), r5, b0.trans (b1.trans (b2.trans (b3.trans (b4.trans b5))))⟩
  simp [results, w08_res, g1]
end
end Go.Proofs.YtdkgckgpdogimaaGreatDoor


/- What the script finds when awake. -/
namespace Go.Proofs.YtdkgckgpdogimaaGreatDoor
open Go.RowKit
set_option linter.unusedVariables false
set_option linter.unusedSimpArgs false
set_option linter.unusedSectionVars false

noncomputable def w32R : Code := (dropC 6 w32B).getD .skip
noncomputable def reg5 : Option Code → Array Oper
  | some (.seq (.region _ ops _) _) => ops
  | _ => #[]
noncomputable def rid5 : Option Code → Nat
  | some (.seq (.region id _ _) _) => id
  | _ => 0
noncomputable def w32O : Array Oper := reg5 (dropC 5 w32B)
theorem w32_body : w32F.body = some w32B := by kernel_rfl
theorem w32_nt : w32F.ntmps = 149 := by kernel_rfl
theorem w32_d5 : dropC 5 w32B = some (.seq (.region (rid5 (dropC 5 w32B)) w32O false) w32R) := by kernel_rfl
theorem w32_size : w32O.size = 3 := by kernel_rfl
theorem w32_op0 : (w32O[0]?).map (fun o => (o.dst, o.guard, o.op)) = some (some 35, none, .move (.tmp 1)) := by kernel_rfl
theorem w32_op1 : (w32O[1]?).map (fun o => (o.dst, o.guard, o.op)) = some (some 36, none, .call ⟨.value (.func 8), #[.tmp 35, .const (.int .i64 9)], #[24, 3]⟩) := by kernel_rfl
theorem w32_op2 : (w32O[2]?).map (fun o => (o.dst, o.guard, o.op)) = some (some 6, none, .assign (.tmp 36)) := by kernel_rfl
theorem put_at {act : Act} {d : Nat} {v : Value} (hd : d < act.tmps.size) : (act.put (some d) v).tmps[d]? = some v := by
  show (act.tmps.setIfInBounds d v)[d]? = _
  rw [Array.getElem?_setIfInBounds, if_pos rfl, if_pos hd]
theorem put_off {act : Act} {d t : Nat} {v : Value} (hd : d ≠ t) : (act.put (some d) v).tmps[t]? = act.tmps[t]? := by
  show (act.tmps.setIfInBounds d v)[t]? = _
  rw [Array.getElem?_setIfInBounds, if_neg hd]
theorem run_call2 {P : Program} (act : Act) (w : World) (f : FuncId) (x y : Operand) (d : Option Tmp) (ts : Array TypeId) (ty : TypeId) (pos : String) (af : Array Edge) (gd : Option (Nat × Bool)) :
    (execOp act.eval ⟨d, .call ⟨.value (.func f), #[x, y], ts⟩, ty, pos, af, gd⟩).run P w = (callFunc f #[act.eval x, act.eval y]).run P w := by
  refine Eq.trans (b := (callFunc f (#[] ++ (#[x, y].map act.eval) ++ #[])).run P w) ?_ (by simp)
  show ((resolve act.eval ⟨.value (.func f), #[x, y], ts⟩ ty) >>= fun d => invoke d.target d.args).run P w = _
  show ((Deferred.ofValue (act.eval (.func f)) (#[x, y].map act.eval)) >>= fun d => invoke d.target d.args).run P w = _
  rw [show act.eval (.func f) = .func (.func f) #[] #[] from rfl]
  rfl
theorem awake32_ran (W : World) (hT : Tab W) : Calls Tryz.prog 9 #[] W fun e w' => e = .returned (.bool true) ∧ Below W.heap.size W w' := by
  letI S : Sy := tabSy
  letI : Dc := noDc
  haveI : DcOK := noDc_ok
  have hi : ∀ B w, Sy.inv B w → Tab w := fun B w hi => (show TabB B w from hi).1
  have hN := namesB_ok prog_names
  have hO := sc_ok (S := S) hi (B := W.heap.size)
  have hr : Rep W.heap.size Pm.emp (⟨[], [], 0⟩ : St).hp W := Rep.startE (TabB.start hT)
  have hf : Frm [] Pm.emp 149 (⟨[], [], 0⟩ : St).fr { tmps := #[] ++ Array.replicate 149 undef, defers := [] } := ⟨rfl, by simp, fun t x hx => by cases putL_some hx⟩
  refine calls_of_wp (P := Tryz.prog) (fn := w32F) Tryz.func9 w32_body ?_
  rw [w32_nt]
  refine piece_closed hN prog_mixed hO hr hf w32_1 fun ρ0 a0 w0 l0 r0 f0 b0 => ?_
  rw [w32_d5]
  show Code.wp _ _ _ _ _
  refine wp_seq (wp_region ?_)
  rw [w32_size]
  show wpOps _ _ _ [0, 1, 2] _ _
  have slot : ∀ t x, (t, x) ∈ w32a.a → w32a.fr.get t = some x → ∃ v, a0.tmps[t]? = some v ∧ x.rp (rnP w32a_r ρ0) v := fun t x _ hx => f0.slot t x hx
  obtain ⟨v1, q1, p1⟩ := f0.slot 1 (.ptr 23 0) (by rfl)
  obtain ⟨v3, q3, p3⟩ := f0.slot 3 (.os 279 6 0 4) (by rfl)
  obtain ⟨v4, q4, p4⟩ := f0.slot 4 (.os 281 1 0 4) (by rfl)
  obtain ⟨v5, q5, p5⟩ := f0.slot 5 (.int .i64 45) (by rfl)
  have hsz := f0.size
  -- the pointer
  obtain ⟨o0, g0, g1⟩ := Option.map_eq_some_iff.1 w32_op0
  obtain ⟨d0, op0, ty0, pos0, af0, gd0⟩ := o0
  simp only [Prod.mk.injEq] at g1
  obtain ⟨rfl, rfl, rfl⟩ := g1
  rw [wpOps_cons]
  unfold wpOp
  simp only [g0]
  rw [if_pos (by rfl)]
  have e1 : a0.eval (.tmp 1) = v1 := by
    show a0.tmps.getD 1 undef = _
    rw [Array.getD_eq_getD_getElem?, q1]; rfl
  refine .inl (wp_val (v := v1) (w' := w0) (by rw [← e1]; rfl) ?_)
  -- the call
  obtain ⟨o1, g2, g3⟩ := Option.map_eq_some_iff.1 w32_op1
  obtain ⟨d1, op1, ty1, pos1, af1, gd1⟩ := o1
  simp only [Prod.mk.injEq] at g3
  obtain ⟨rfl, rfl, rfl⟩ := g3
  rw [wpOps_cons]
  unfold wpOp
  simp only [g2]
  rw [if_pos (by rfl)]
  refine .inl ?_
  have e35 : (a0.put (some 35) v1).eval (.tmp 35) = v1 := by
    show (a0.put (some 35) v1).tmps.getD 35 undef = _
    rw [Array.getD_eq_getD_getElem?, put_at (by rw [hsz]; decide)]; rfl
  unfold Oper.wp
  have hrun : (execOp (a0.put (some 35) v1).eval ⟨some 36, .call ⟨.value (.func 8), #[.tmp 35, .const (.int .i64 9)], #[24, 3]⟩, ty1, pos1, af1, none⟩).run Tryz.prog w0 = .ok (.enter 8 #[v1, .int .i64 9]) w0 := by
    have h1 := MuLone.run_callFunc_enter Tryz.func8 (hN _ _ _ Tryz.func8 w08_body) w08_body #[v1, .int .i64 9] w0
    have h2 := run_call2 (P := Tryz.prog) (a0.put (some 35) v1) w0 8 (.tmp 35) (.const (.int .i64 9)) (some 36) #[24, 3] ty1 pos1 af1 none
    have h9 : (a0.put (some 35) v1).eval (.const (.int .i64 9)) = .int .i64 9 := rfl
    rw [h9] at h2
    rw [h2, e35]
    exact h1
  rw [hrun, Oper.upon_enter]
  refine (settle_ran hi r0 p1).mono ?_
  rintro e w1 ⟨ρ1, rfl, k1, r1, b1⟩
  -- the number
  obtain ⟨o2, g4, g5⟩ := Option.map_eq_some_iff.1 w32_op2
  obtain ⟨d2, op2, ty2, pos2, af2, gd2⟩ := o2
  simp only [Prod.mk.injEq] at g5
  obtain ⟨rfl, rfl, rfl⟩ := g5
  show wpOps _ _ _ [2] _ _
  rw [wpOps_cons]
  unfold wpOp
  simp only [g4]
  rw [if_pos (by rfl)]
  have s1 : (a0.put (some 35) v1).tmps.size = 149 := by simp [Act.put, hsz]
  have s2 : ((a0.put (some 35) v1).put (some 36) (.int .i64 3)).tmps.size = 149 := by simp [Act.put, hsz]
  have e36 : ((a0.put (some 35) v1).put (some 36) (.int .i64 3)).eval (.tmp 36) = .int .i64 3 := by
    show ((a0.put (some 35) v1).put (some 36) (.int .i64 3)).tmps.getD 36 undef = _
    rw [Array.getD_eq_getD_getElem?, put_at (by rw [s1]; decide)]; rfl
  have h3 : (execOp ((a0.put (some 35) v1).put (some 36) (.int .i64 3)).eval ⟨some 6, .assign (.tmp 36), ty2, pos2, af2, none⟩).run Tryz.prog w1 = .ok (.value (((a0.put (some 35) v1).put (some 36) (.int .i64 3)).eval (.tmp 36))) w1 := rfl
  rw [e36] at h3
  refine .inl (wp_val (v := .int .i64 3) (w' := w1) h3 ?_)
  show Code.wp _ _ _ _ _
  have f1 : Frm [] ρ1 149 w32c.fr ((((a0.put (some 35) v1).put (some 36) (.int .i64 3))).put (some 6) (.int .i64 3)) := by
    refine ⟨f0.defers, by simp [Act.put, hsz], fun t x hx => ?_⟩
    have hm := putL_some hx
    simp only [w32c, List.mem_cons, Prod.mk.injEq, List.not_mem_nil, or_false] at hm
    rcases hm with ⟨rfl, rfl⟩ | ⟨rfl, rfl⟩ | ⟨rfl, rfl⟩ | ⟨rfl, rfl⟩ | ⟨rfl, rfl⟩
    · exact ⟨v1, by rw [put_off (by decide), put_off (by decide), put_off (by decide)]; exact q1, k1 _ (.inl rfl) _ p1⟩
    · exact ⟨v3, by rw [put_off (by decide), put_off (by decide), put_off (by decide)]; exact q3, k1 _ (.inr (.inl rfl)) _ p3⟩
    · exact ⟨v4, by rw [put_off (by decide), put_off (by decide), put_off (by decide)]; exact q4, k1 _ (.inr (.inr rfl)) _ p4⟩
    · exact ⟨v5, by rw [put_off (by decide), put_off (by decide), put_off (by decide)]; exact q5, by simpa only [AV.rp] using p5⟩
    · exact ⟨.int .i64 3, put_at (by rw [s2]; decide), by simp only [AV.rp]⟩
  refine piece_fin (s := w32c) hN prog_mixed hO r1 f1 w32_2 fun v w' F' hv hb => ?_
  obtain rfl : v = .bool true := by
    have hv : Sh.rp F' .bool (Xp.bool true).den v := hv
    simp only [Sh.rp] at hv
    exact hv
  exact ⟨rfl, b0.trans (b1.trans hb)⟩
end Go.Proofs.YtdkgckgpdogimaaGreatDoor


/- The statement ScriptNobody: its walk. -/
namespace Go.Proofs.YtdkgckgpdogimaaGreatDoor
open Go.RowKit
set_option linter.unusedVariables false
set_option linter.unusedSimpArgs false

def snL : List Fs := [⟨9, [], [.sh .bool], 0, none⟩]
theorem sn_tree : chkT Tryz.prog snL 400 3 [.agg [.int .u8, .int .i64, .str, .int .i64]] [.sh .bool] (.leaf (.app 0 .nil)) [] = true := by kernel_rfl
/-- What is unknown: the step. -/
@[reducible] def snSy (p : PV) : Sy := ⟨fun _ => p, fun _ _ => .bool true, fun _ _ => none, TabB, TabB.up, TabB.keep⟩
theorem sn_ok (p : PV) : ∀ s ∈ snL, @FnOK (snSy p) Tryz.prog s := by
  letI : Sy := snSy p
  letI : Dc := noDc
  haveI : DcOK := noDc_ok
  intro s hs
  simp only [snL, List.mem_cons, List.not_mem_nil, or_false] at hs
  subst hs
  refine ⟨fun w vs => MuLone.run_callFunc_enter Tryz.func9 (namesB_ok prog_names _ _ _ Tryz.func9 w32_body) w32_body vs w, fun F W ps vs _ hi ha _ => ?_⟩
  obtain ⟨rfl, hv⟩ := ha
  obtain rfl : vs = #[] := by rw [← Array.toArray_toList (xs := vs), hv]
  refine (awake32_ran W (show TabB W.heap.size W from hi).1).mono fun e w' ⟨h1, h2⟩ => ⟨_, h1, ?_, h2⟩
  show Sh.rp (growF F W w') .bool (.bool true) (.bool true)
  simp only [Sh.rp]
  rfl
theorem scriptNobody_any (k id : Int) (s : ByteArray) (n : Int) (W : World) (hT : Tab W) (_ : (Lit.int .u8 k).wf = true) (_ : (Lit.int .i64 id).wf = true) (_ : s.size ≤ maxLen) (_ : (Lit.int .i64 n).wf = true) : Calls Tryz.prog 3 #[.agg #[.int .u8 k, .int .i64 id, .string s, .int .i64 n]] W fun e w' => e = .returned (.bool true) ∧ Below W.heap.size W w' := by
  letI : Sy := snSy (.tup [.int k, .int id, .str s, .int n])
  letI : Dc := noDc
  haveI : DcOK := noDc_ok
  have ha : argsOK (fun _ _ => none) [.agg [.int .u8, .int .i64, .str, .int .i64]] [PV.tup [.int k, .int id, .str s, .int n]] [.agg #[.int .u8 k, .int .i64 id, .string s, .int .i64 n]] := by
    refine ⟨_, [], _, [], rfl, rfl, ⟨_, rfl, ?_⟩, rfl, rfl⟩
    refine ⟨_, _, rfl, by simp only [Sh.rp]; rfl, _, _, rfl, by simp only [Sh.rp]; rfl, _, _, rfl, by simp only [Sh.rp]; rfl, _, _, rfl, by simp only [Sh.rp]; rfl, rfl⟩
  refine (chk_fn (F := fun _ _ => none) (namesB_ok prog_names) prog_mixed (sn_ok _) (by intro s hs; simp only [snL, List.mem_cons, List.not_mem_nil, or_false] at hs; subst hs; decide) (fun _ _ _ h => by cases h) (fun _ _ _ => Iff.rfl) (TabB.start hT) ha (fun i p hp => by
    cases i with
    | zero => injection hp
    | succ i => cases hp) _ [] sn_tree (fun p hp => by cases hp) _ rfl).mono ?_
  rintro e w' ⟨v, rfl, h1, h2⟩
  have h1 : Sh.rp (growF (fun _ _ => none) W w') .bool (.bool true) v := h1
  simp only [Sh.rp] at h1
  exact ⟨by rw [h1]; rfl, h2⟩
end Go.Proofs.YtdkgckgpdogimaaGreatDoor

