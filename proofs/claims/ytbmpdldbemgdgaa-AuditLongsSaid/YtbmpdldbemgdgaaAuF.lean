/- The statement AuditLongs: its walk. -/
import Derived.Test.YtbmpdldbemgdgaaAuE
namespace Go.Proofs.Ytbmpdldbemgdgaa
open Go.RowKit
set_option linter.unusedVariables false
set_option linter.unusedSimpArgs false

theorem au_ran : saysTrue (auR true true 0 .leaf 0 []) = true ∧ saysTrue (auR true false 0 .leaf 0 []) = true ∧ saysTrue (auR false true 0 .leaf 0 []) = true ∧ saysTrue (auR false false 0 .leaf 0 []) = true :=
  ⟨by kernel_rfl, by kernel_rfl, by kernel_rfl, by kernel_rfl⟩
theorem au_run (a b : Bool) : saysTrue (auR a b 0 .leaf 0 []) = true := by
  cases a <;> cases b
  · exact au_ran.2.2.2
  · exact au_ran.2.2.1
  · exact au_ran.2.1
  · exact au_ran.1
theorem au_ora {n i m : Nat} (cA cB : Bool) {B : Nat} {ρ0 : Pm} : @OraSnd (auSy n i m) Try.prog B ρ0 (auOra cA cB) := by
  letI : Sy := auSy n i m
  intro f g hf args lo h c lg x h' c' lg' e ρ w vs hle hr hv
  have hf : (bif Nat.beq f 9 then some (fun args => match args with | [] => ret (.bool true) | _ => fail [199]) else none) = some g := hf
  cases hb : Nat.beq f 9 with
  | false => rw [hb] at hf; cases hf
  | true =>
    rw [hb] at hf
    injection hf with hf
    subst hf
    obtain rfl := Nat.eq_of_beq_eq_true hb
    cases args with
    | cons _ _ => cases e
    | nil =>
      obtain ⟨rfl, rfl, _, _⟩ := ret_ok (show ret (AV.bool true) lo h c lg = .ok x h' c' lg' from e)
      rw [rps_nil] at hv
      obtain rfl : vs = #[] := by rw [← Array.toArray_toList (xs := vs), hv]
      refine .inl ⟨MuLone.run_callFunc_enter Try.func9 (namesB_ok prog_names _ _ _ Try.func9 rfl) rfl _ w, (awake35_ran w).mono fun e w' ⟨h1, h2⟩ => ?_⟩
      exact ⟨ρ, .bool true, h1, Pm.le.refl ρ, by simp only [AV.rp], hr.grow h2, below_grow hr h2⟩
theorem au_loc (cA cB : Bool) : OraLoc (auOra cA cB) := by
  letI : Sy := bareSy
  intro f g hf args
  have hf : (bif Nat.beq f 9 then some (fun args => match args with | [] => ret (.bool true) | _ => fail [199]) else none) = some g := hf
  cases hb : Nat.beq f 9 with
  | false => rw [hb] at hf; cases hf
  | true =>
    rw [hb] at hf
    injection hf with hf
    subst hf
    cases args with
    | cons _ _ => exact Loc.fail _
    | nil => exact Loc.ret _
theorem au_body : auF.body = some auB := by kernel_rfl
theorem au_c0 : auB = .seq (fstC auB) auC1 := by kernel_rfl
theorem au_c1 : auC1 = .seq (fstC auC1) auC2 := by kernel_rfl
theorem au_c2 : auC2 = .seq (fstC auC2) auC3 := by kernel_rfl
theorem au_c3 : auC3 = .seq (fstC auC3) auC4 := by kernel_rfl
theorem au_c4 : auC4 = .seq (fstC auC4) auC5 := by kernel_rfl
theorem au_c5 : auC5 = .seq (.region (idC (fstC auC5)) auOps false) auC6 := by kernel_rfl
theorem au_size : auOps.size = 8 := by kernel_rfl
theorem au_op3 : (auOps[3]?).map (fun o => (o.dst, o.guard, o.op)) = some (some 31, none, .makeSlice 37 (.tmp 30) (.tmp 30)) := by kernel_rfl
theorem au_op4 : (auOps[4]?).map (fun o => (o.dst, o.guard, o.op)) = some (some 32, none, .convert 37 9 (.tmp 31)) := by kernel_rfl
theorem au_nt : auF.ntmps = 90 := by kernel_rfl
/-- Zero bytes made. -/
theorem make_zeros {P : Program} {t e : TypeId} {i : TypeInfo} (hu : P.underlying t = some (.slice e)) (hi : P.info? e = some i) (h1 : i.size = 1) (hz : i.zero = some (.int .u8 0)) (hb : i.bytes ≤ 10000) {m : Nat} (hm : m ≤ 20000) (w : World) :
    ∃ arr : Array Value, (Instr.makeSlice t (.int .i64 (m : Int)) (.int .i64 (m : Int))).run P w = .ok (.slice (some ⟨w.heap.size, 0, none⟩) m m) (w.alloc (.cells arr e)) ∧ arr = ((List.replicate m (0 : Int)).map (Value.int .u8)).toArray := by
  have hwn : IntKind.i64.wrap (m : Int) = (m : Int) := IntWalk.i64_in _ (by omega)
  have hc0 : ¬ ((m : Int) < 0) := by omega
  have hbig : ¬ (281474976710656 < (i.bytes : Int) * (m : Int)) := by
    have : i.bytes * m ≤ 10000 * 20000 := Nat.mul_le_mul hb hm
    have h2 : ((i.bytes * m : Nat) : Int) ≤ ((10000 * 20000 : Nat) : Int) := by exact_mod_cast this
    rw [Int.natCast_mul] at h2
    omega
  refine ⟨(Array.range (m * i.size)).map ((Value.int .u8 0).cells[· % (Value.int .u8 0).cells.size]!), ?_, ?_⟩
  · by_cases hz0 : m * i.size = 0
    · simp [Instr.makeSlice, run_underlying hu, asInt, asIntOf, sizeOf, typeInfo, zeroValue, hi, hz, hwn, hc0, hbig, hz0, newRow]
      rw [show Array.range 0 = #[] from rfl]
      simp
    · simp [Instr.makeSlice, run_underlying hu, asInt, asIntOf, sizeOf, typeInfo, zeroValue, hi, hz, hwn, hc0, hbig, hz0, newRow]
  · apply Array.ext'
    rw [h1, Nat.mul_one, List.map_replicate]
    apply List.eq_replicate_iff.2
    constructor
    · simp
    · intro x hx
      simp only [Array.toList_map, Array.toList_range, List.mem_map, List.mem_range] at hx
      obtain ⟨y, _, rfl⟩ := hx
      have : y % (Value.int .u8 0).cells.size = 0 := Nat.mod_one y
      rw [this]
      rfl
/-- The bytes as a text. -/
theorem zeros_text {P : Program} {s d e : TypeId} (hs : P.underlying s = some (.slice e)) (he : P.underlying e = some (.int .u8)) (hd : P.underlying d = some .string) {m b : Nat} {w : World} {arr : Array Value} {el : TypeId} {fz : Nat × Nat} (ha : arr = ((List.replicate m (0 : Int)).map (Value.int .u8)).toArray) (hb : w.heap[b]? = some (.cells arr el fz)) :
    ∃ t, (convert s d (.slice (some ⟨b, 0, none⟩) m m)).run P w = .ok (.string t) w ∧ t.size = m := by
  have hl : (loadCells ⟨b, 0, none⟩ m).run P w = .ok ((List.replicate m (0 : Int)).map (Value.int .u8)).toArray w := by
    rw [run_loadCells w _ m (fun _ => Value.int .u8 0) (fun j hj => by
      have : w.cell? ((⟨b, 0, none⟩ : Addr).add j) = some (Value.int .u8 0) := by
        rw [@addr_add bareSy]
        unfold World.cell?
        rw [hb]
        simp [ha, hj]
      rw [this])]
    congr 1
    apply Array.ext'
    simp
    apply List.ext_getElem <;> simp
  refine ⟨_, by rw [run_convert_bytes_string w s d e _ m m hs he hd, run_bytesToString w _ m m _ hl], ?_⟩
  have : ∀ (k : Nat) (t : ByteArray), ((List.replicate k (0 : Int)).foldl (fun r n => r.push (UInt8.ofNat n.toNat)) t).size = t.size + k := by
    intro k
    induction k with
    | zero => intro t; rfl
    | succ k ih => intro t; rw [List.replicate_succ, List.foldl_cons, ih, ByteArray.size_push]; omega
  rw [this]
  simp
theorem frm_put {S : Sy} {ρ : Pm} {N : Nat} {a : Tr AV} {act : Act} (hf : @Frm S ρ N a act) {d : Nat} (hd : d < N) {x : AV} {v : Value} (hx : @AV.rp S ρ x v) : @Frm S ρ N (a.set d x) (act.put (some d) v) := by
  letI := S
  exact Frm.put hf (d := some d) (fun e he => by injection he with he; subst he; exact hd) hx
set_option maxHeartbeats 1000000 in
theorem auditLongs_any (n i : Nat) (W : World) (hn : n < 65536) (hi : i < 65536) : Calls Try.prog 3 #[.int .u16 (n : Int), .int .u16 (i : Int)] W fun e w' => e = .returned (.bool true) ∧ Below W.heap.size W w' := by
  obtain ⟨m, hm⟩ : ∃ m, m = n % 17001 := ⟨_, rfl⟩
  letI : Sy := auSy n i m
  obtain ⟨h', c', lg', e⟩ := saysTrue_is (au_run (decide (16384 < m)) (decide (i < m)))
  have hG : GlobOK (fun _ => none) (fun _ => none) := noGlob
  have hN := namesB_ok prog_names
  have hl := au_loc (decide (16384 < m)) (decide (i < m))
  have ho : OraSnd Try.prog W.heap.size (fun _ => none) (auOra (decide (16384 < m)) (decide (i < m))) := au_ora _ _
  have ht : TabSnd Try.prog W.heap.size (fun _ => none) (auOra (decide (16384 < m)) (decide (i < m))).tab := au_tabs hn hi hm
  have h0 : Rep W.heap.size (fun _ => none) .leaf W := Rep.start trivial
  have hv : AV.rps (fun _ => none) [.un 0, .un 1] (#[.int .u16 (n : Int), .int .u16 (i : Int)] : Array Value).toList :=
    rps_cons.2 ⟨_, _, rfl, au_tells (j := 0) (by omega) rfl _, rps_cons.2 ⟨_, _, rfl, au_tells (j := 1) (by omega) rfl _, rps_nil.2 rfl⟩⟩
  have hf0 : Frm (fun _ => none) auF.ntmps (Tr.fill [.un 0, .un 1] 0 (blank auF.ntmps)) { tmps := #[.int .u16 (n : Int), .int .u16 (i : Int)] ++ Array.replicate (auF.ntmps - 2) undef, defers := [] } :=
    Frm.start hv (by rw [au_nt]; decide)
  refine calls_of_wp Try.func3 au_body ?_
  obtain ⟨hd, e⟩ := want_ok (show want (dstOK auF.ntmps auOps) 183 _ 0 .leaf 0 [] = _ from e)
  rw [au_c0]
  refine piece_seq hG hN prog_mixed hl ho ht e (Pm.le.refl _) h0 hf0 fun ρ1 x1 w1 a1 h1 c1 lg1 e1 l1 r1 f1 b1 => ?_
  rw [au_c1]
  refine piece_seq hG hN prog_mixed hl ho ht e1 (fun _ _ h => by cases h) r1 f1 fun ρ2 x2 w2 a2 h2 c2 lg2 e2 l2 r2 f2 b2 => ?_
  rw [au_c2]
  refine piece_seq hG hN prog_mixed hl ho ht e2 (fun _ _ h => by cases h) r2 f2 fun ρ3 x3 w3 a3 h3 c3 lg3 e3 l3 r3 f3 b3 => ?_
  rw [au_c3]
  refine piece_seq hG hN prog_mixed hl ho ht e3 (fun _ _ h => by cases h) r3 f3 fun ρ4 x4 w4 a4 h4 c4 lg4 e4 l4 r4 f4 b4 => ?_
  rw [au_c4]
  refine piece_seq hG hN prog_mixed hl ho ht e4 (fun _ _ h => by cases h) r4 f4 fun ρ5 x5 w5 a5 h5 c5 lg5 e5 l5 r5 f5 b5 => ?_
  rw [au_c5]
  refine wp_seq (wp_region ?_)
  rw [au_size]
  show wpOps _ _ _ [0, 1, 2, 3, 4, 5, 6, 7] _ _
  refine piece_op hG hN prog_mixed hl ho ht hd e5 (fun _ _ h => by cases h) r5 f5 fun ρ6 x6 w6 a6 h6 c6 lg6 e6 l6 r6 f6 b6 => ?_
  refine piece_op hG hN prog_mixed hl ho ht hd e6 (fun _ _ h => by cases h) r6 f6 fun ρ7 x7 w7 a7 h7 c7 lg7 e7 l7 r7 f7 b7 => ?_
  refine piece_op hG hN prog_mixed hl ho ht hd e7 (fun _ _ h => by cases h) r7 f7 fun ρ8 x8 w8 a8 h8 c8 lg8 e8 l8 r8 f8 b8 => ?_
  obtain ⟨h30, e8⟩ := want_ok e8
  have g30 : a8.get 30 = some (.un 5) := by
    unfold is5 at h30
    split at h30
    · assumption
    · cases h30
  obtain ⟨v30, k1, k2⟩ := f8.slot 30 _ g30
  obtain rfl : v30 = .int .i64 (m : Int) := au_is (j := 5) (p := (_, _)) (by omega) rfl _ _ k2
  obtain ⟨o3, q3, q4⟩ := Option.map_eq_some_iff.1 au_op3
  obtain ⟨dst3, op3, ty3, pos3, af3, gd3⟩ := o3
  simp only [Prod.mk.injEq] at q4
  obtain ⟨rfl, rfl, rfl⟩ := q4
  obtain ⟨o4, p3, p4⟩ := Option.map_eq_some_iff.1 au_op4
  obtain ⟨dst4, op4, ty4, pos4, af4, gd4⟩ := o4
  simp only [Prod.mk.injEq] at p4
  obtain ⟨rfl, rfl, rfl⟩ := p4
  obtain ⟨u8i, hu8, hu1, hu2, hu3⟩ := u8_facts
  obtain ⟨arr, m1, m2⟩ := make_zeros (P := Try.prog) Try.underlying37 hu8 hu1 hu2 hu3 (m := m) (by omega) w8
  have ev3 : x8.eval (.tmp 30) = .int .i64 (m : Int) := by
    show x8.tmps.getD 30 undef = _
    rw [Array.getD_eq_getD_getElem?, k1]
    rfl
  rw [wpOps_cons]
  unfold wpOp
  simp only [q3]
  rw [if_pos (by rfl)]
  refine .inl (wp_val (v := .slice (some ⟨w8.heap.size, 0, none⟩) m m) (val_run (by rw [ev3]; exact m1)) ?_)
  have b9 : Below w8.heap.size w8 (w8.alloc (.cells arr 5)) := (Below.refl w8.heap.size w8).alloc (Nat.le_refl _) _
  have r9 := r8.grow b9
  have f9 := frm_put f8 (d := 31) (by rw [au_nt]; decide) (x := .un 1006) (v := .slice (some ⟨w8.heap.size, 0, none⟩) m m) (by simp only [AV.rp]; exact ⟨_, _, _, rfl⟩)
  obtain ⟨t, m3, m4⟩ := zeros_text (P := Try.prog) Try.underlying37 Try.underlying5 Try.underlying9 (m := m) (b := w8.heap.size) (w := w8.alloc (.cells arr 5)) (el := 5) (fz := (0, 0)) m2 (by show (w8.heap.push _)[w8.heap.size]? = _; rw [Array.getElem?_push, if_pos rfl])
  have ev4 : (x8.put (some 31) (.slice (some ⟨w8.heap.size, 0, none⟩) m m)).eval (.tmp 31) = .slice (some ⟨w8.heap.size, 0, none⟩) m m := by
    obtain ⟨v31, s1, s2⟩ := f9.slot 31 _ (by rw [Tr.get_set, if_pos rfl])
    have hsz : 31 < x8.tmps.size := by rw [f8.size, au_nt]; decide
    show (x8.put (some 31) _).tmps.getD 31 undef = _
    simp [Act.put, Array.getD_eq_getD_getElem?, Array.getElem?_setIfInBounds, hsz]
  rw [wpOps_cons]
  unfold wpOp
  simp only [p3]
  rw [if_pos (by rfl)]
  refine .inl (wp_val (v := .string t) (val_run (by rw [ev4]; exact m3)) ?_)
  have f10 := frm_put f9 (d := 32) (by rw [au_nt]; decide) (x := .un 1007) (v := .string t) (by simp only [AV.rp]; exact ⟨t, rfl, m4⟩)
  refine piece_op hG hN prog_mixed hl ho ht hd e8 (fun _ _ h => by cases h) r9 f10 fun ρ11 x11 w11 a11 h11 c11 lg11 e11 l11 r11 f11 b11 => ?_
  refine piece_op hG hN prog_mixed hl ho ht hd e11 (fun _ _ h => by cases h) r11 f11 fun ρ12 x12 w12 a12 h12 c12 lg12 e12 l12 r12 f12 b12 => ?_
  refine piece_op hG hN prog_mixed hl ho ht hd e12 (fun _ _ h => by cases h) r12 f12 fun ρ13 x13 w13 a13 h13 c13 lg13 e13 l13 r13 f13 b13 => ?_
  refine piece_end hG hN prog_mixed hl ho ht e13 (fun _ _ h => by cases h) r13 f13 fun ρ14 v w14 l14 hv r14 b14 => ?_
  simp only [AV.rp] at hv
  subst hv
  exact ⟨rfl, b1.trans (b2.trans (b3.trans (b4.trans (b5.trans (b6.trans (b7.trans (b8.trans ((below_grow r8 b9).trans (b11.trans (b12.trans (b13.trans b14)))))))))))⟩
theorem u16_nat {x : Int} (h : (Lit.int .u16 x).wf = true) : ∃ n : Nat, x = n ∧ n < 65536 := by
  have m1 : IntKind.u16.min = 0 := rfl
  have m2 : IntKind.u16.max = 65535 := rfl
  simp [Lit.wf, m1, m2] at h
  exact ⟨x.toNat, (Int.toNat_of_nonneg (by omega)).symm, by omega⟩
end Go.Proofs.Ytbmpdldbemgdgaa

