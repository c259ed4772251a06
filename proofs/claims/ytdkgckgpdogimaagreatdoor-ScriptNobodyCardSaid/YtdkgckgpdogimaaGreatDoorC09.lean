/- A region whose order is drawn, in the program. -/
import Derived.Test.YtdkgckgpdogimaaGreatDoorC08
namespace Go.Proofs.YtdkgckgpdogimaaGreatDoor
open Go.RowKit
set_option linter.unusedVariables false
set_option linter.unusedSimpArgs false
set_option linter.unusedSectionVars false
variable [Sy] [Dc]

theorem ready_iff {ops : Array Oper} {listed : Array Bool} {i : Nat} : i ∈ Region.ready .any ops listed ↔ i < ops.size ∧ listed.getD i true = false ∧ ∀ o, ops[i]? = some o → ∀ e ∈ o.after.toList, Region.binds .any e = true → listed.getD e.on false = true := by
  unfold Region.ready
  rw [List.mem_filter, List.mem_range, Bool.and_eq_true]
  constructor
  · rintro ⟨h1, h2, h3⟩
    refine ⟨h1, by simpa using h2, fun o ho e he hb => ?_⟩
    rw [ho] at h3
    have h3 : o.after.all (fun e => !Region.binds .any e || listed.getD e.on false) = true := h3
    rw [← Array.all_toList] at h3
    have := List.all_eq_true.1 h3 e he
    rw [hb] at this
    exact this
  · rintro ⟨h1, h2, h3⟩
    refine ⟨h1, by simpa using h2, ?_⟩
    obtain ⟨o, ho⟩ : ∃ o, ops[i]? = some o := ⟨ops[i], Array.getElem?_eq_getElem h1⟩
    rw [ho]
    show o.after.all (fun e => !Region.binds .any e || listed.getD e.on false) = true
    rw [← Array.all_toList, List.all_eq_true]
    intro e he
    cases hb : Region.binds .any e with
    | false => rfl
    | true => exact h3 o ho e he hb
theorem over_of {a b : Ev} {n : Nat} {q : Option Nat} (ha : a.cov n q) (hb : b.cov n q) (hw : a.isW = true ∨ b.isW = true) : over a b = true := by
  unfold over
  obtain ⟨h1, h2⟩ := ha
  obtain ⟨h3, h4⟩ := hb
  rw [Bool.and_eq_true, Bool.and_eq_true, Bool.or_eq_true, Bool.or_eq_true, Bool.or_eq_true, Nat.beq_eq, Nat.beq_eq, Nat.beq_eq, Nat.beq_eq]
  refine ⟨hw, h1.trans h3.symm, ?_⟩
  rcases h2 with h2 | h2
  · exact .inl h2
  rcases h4 with h4 | h4
  · exact .inr (.inl h4)
  · have : a.idx - 1 = b.idx - 1 := Option.some.inj (h2.symm.trans h4)
    by_cases h5 : a.idx = 0
    · exact .inl h5
    by_cases h6 : b.idx = 0
    · exact .inr (.inl h6)
    · exact .inr (.inr (by omega))
theorem apl_no {la lb : List Ev} (h : apl la lb = true) {a b : Ev} (ha : a ∈ la) (hb : b ∈ lb) : over a b = false := by
  unfold apl at h
  have := List.all_eq_true.1 (List.all_eq_true.1 h a ha) b hb
  simpa using this
theorem nnm_no {l : List Ev} {c c2 : Nat} (h : nnm l c c2 = true) {e : Ev} (he : e ∈ l) (h1 : c ≤ e.name) (h2 : e.name < c2) : False := by
  unfold nnm at h
  have := List.all_eq_true.1 h e he
  rw [Bool.or_eq_true, blt_iff, Nat.ble_eq] at this
  omega
theorem Below.drew_iff {B : Nat} {w w' : World} (h : Below B w.drew w') : Below B w w' := ⟨h.os, h.tape, h.output, h.size, h.block⟩
section
variable {P : Program} {B : Nat} {ρ0 : Pm} {X : Mach} {ops : Array Oper} {N : Nat}
set_option maxRecDepth 10000 in
theorem draw_sound {D : List Deferred} (hX : ∀ o args, Loc (X.op o args)) (hop : OpOK P B ρ0 X ops N) (hst : statOK N ops = true) {a : Tr AV} {lo : Nat} {h : Heap} {c : Nat} {lg : List Ev} {a' : Tr AV} {h' : Heap} {c' : Nat} {lg' : List Ev}
    (e : drw X ops (masks ops.toList 0 .leaf) ops.toList 0 [] a lo h c lg = .ok a' h' c' lg') {ρ : Pm} {act : Act} {w : World} {Q : Exit → Act → World → Prop} (hz : ρ0.le ρ) (hr : Rep B ρ h w) (hf : Frm D ρ N a act)
    (hk : ∀ ρ' act' w', ρ.le ρ' → Rep B ρ' h' w' → Frm D ρ' N a' act' → Below B w w' → Q .normal act' w') : wpAny P .any ops Q ops.size (Array.replicate ops.size false) act w := by
  obtain ⟨A, H, C, LG, g1, _, g3, g4, g5, g6⟩ := drw_trace ops.toList 0 [] a lo h c lg a' h' c' lg' e (fun _ => a) (fun _ => h) (fun _ => c) (fun _ => []) rfl rfl rfl (fun j hj => by omega)
  obtain ⟨gA, gH, gC⟩ := g1 0 (Nat.le_refl _)
  have hlen : ops.toList.length = ops.size := by simp
  rw [Nat.zero_add, hlen] at g3 g4 g5
  have run : ∀ i, i < ops.size → ∃ o, ops[i]? = some o ∧ stp X ops o (A i) (C i) (H i) (C i) [] = .ok (A (i + 1)) (H (i + 1)) (C (i + 1)) (LG i) ∧ ∀ j, j < i → ordB (masks ops.toList 0 .leaf) i j = true ∨ dis (LG j) (LG i) (C j) (C (j + 1)) := fun i hi => by
    obtain ⟨o, h1, h2, h3⟩ := g6 i (by rw [hlen]; exact hi)
    rw [Nat.zero_add] at h2 h3
    exact ⟨o, by simpa using h1, h2, h3⟩
  have loc : ∀ i, i < ops.size → C i ≤ C (i + 1) ∧ (∀ x ∈ LG i, x.name < C i) := fun i hi => by
    obtain ⟨o, h1, h2, _⟩ := run i hi
    obtain ⟨l, p1, p2, p3, _⟩ := Loc.stp hX ops o (A i) _ _ _ _ _ _ _ _ (Nat.le_refl _) h2
    rw [List.append_nil] at p1
    rw [p1]
    exact ⟨p2, p3⟩
  have cmono : ∀ j i, j ≤ i → i ≤ ops.size → C j ≤ C i := by
    intro j i hji
    induction hji with
    | refl => intro _; exact Nat.le_refl _
    | step hm ih => intro hi; exact Nat.le_trans (ih (by omega)) (loc _ (by omega)).1
  -- the heap's places
  let v : Nat → (Nat × Option Nat) → At := fun i L => vl (H i) L.1 L.2
  let Rh : Nat → (Nat × Option Nat) → Prop := fun i L => Rd (LG i) (C i) (C (i + 1)) L.1 L.2
  let Wh : Nat → (Nat × Option Nat) → Prop := fun i L => Wt (LG i) (C i) (C (i + 1)) L.1 L.2
  let ord : Nat → Nat → Prop := fun i j => ordB (masks ops.toList 0 .leaf) i j = true
  have Th : ∀ i, i < ops.size → ∀ L, ¬ Wh i L → v (i + 1) L = v i L := fun i hi L hw => by
    obtain ⟨o, h1, h2, _⟩ := run i hi
    exact (Loc.stp hX ops o (A i)).keeps (Nat.le_refl _) (show stp X ops o (A i) (C i) (H i) (C i) [] = .ok (A (i + 1)) (H (i + 1)) (C (i + 1)) (LG i ++ []) by rw [List.append_nil]; exact h2) _ _ hw
  have conh : ∀ j i, j < i → i < ops.size → ¬ ord i j → ∀ L, (Wh j L → ¬ Rh i L ∧ ¬ Wh i L) ∧ (Wh i L → ¬ Rh j L) := fun j i hji hi ho L => by
    obtain ⟨o, h1, h2, h3⟩ := run i hi
    obtain ⟨d1, d2⟩ := (h3 j hji).resolve_left ho
    have m1 := cmono (j + 1) i (by omega) (by omega)
    have lj := loc j (by omega)
    have li := loc i hi
    have key1 : ∀ x ∈ LG i, ∀ q, x.cov L.1 q → ¬ (C j ≤ L.1 ∧ L.1 < C (j + 1)) := fun x hx q hq hh => nnm_no d2 hx (by rw [hq.1]; exact hh.1) (by rw [hq.1]; exact hh.2)
    have nr : Wh j L → ¬ Rh i L := fun hw hR => by
      rcases hw with ⟨x, hx, hxw, hxq⟩ | hw
      · rcases hR with ⟨y, hy, hyq⟩ | hR
        · have := apl_no d1 hx hy
          rw [over_of hxq hyq (.inl hxw)] at this
          cases this
        · have := lj.2 x hx; rw [hxq.1] at this; omega
      · rcases hR with ⟨y, hy, hyq⟩ | hR
        · exact key1 y hy _ hyq hw
        · omega
    refine ⟨fun hw => ⟨nr hw, fun hW => nr hw (by rcases hW with h | h; exact .inl h.cov; exact .inr h)⟩, fun hw hR => ?_⟩
    rcases hw with ⟨x, hx, hxw, hxq⟩ | hw
    · rcases hR with ⟨y, hy, hyq⟩ | hR
      · have := apl_no d1 hy hx
        rw [over_of hyq hxq (.inr hxw)] at this
        cases this
      · exact key1 x hx _ hxq hR
    · rcases hR with ⟨y, hy, hyq⟩ | hR
      · have := lj.2 y hy; rw [hyq.1] at this; omega
      · omega
  -- the slots
  let vt : Nat → Nat → Option AV := fun i t => (A i).get t
  let Rt : Nat → Nat → Prop := fun i t => ∀ o, ops[i]? = some o → t ∈ o.looksAt ops
  let Wt' : Nat → Nat → Prop := fun i t => ∀ o, ops[i]? = some o → o.dst = some t
  have Tt : ∀ i, i < ops.size → ∀ t, ¬ Wt' i t → vt (i + 1) t = vt i t := fun i hi t hw => by
    obtain ⟨o, h1, h2, _⟩ := run i hi
    obtain ⟨b', _, _, h4⟩ := stp_frame (b := A i) (fun _ _ => rfl) h2
    exact (h4 t (fun hd => hw fun o2 ho2 => by rw [h1] at ho2; injection ho2 with ho2; rw [← ho2]; exact hd)).2
  have cont : ∀ j i, j < i → i < ops.size → ¬ ord i j → ∀ t, (Wt' j t → ¬ Rt i t ∧ ¬ Wt' i t) ∧ (Wt' i t → ¬ Rt j t) := fun j i hji hi ho t => by
    obtain ⟨o, h1, _, _⟩ := run i hi
    obtain ⟨x, hx, _, _⟩ := run j (by omega)
    obtain ⟨_, _, hs⟩ := statOK_spec hst h1
    obtain ⟨s1, s2, s3⟩ := Oper.apart_spec ((hs j x hji hx).resolve_left ho)
    refine ⟨fun hw => ⟨fun hR => s1 t (hw x hx) (hR o h1), fun hW => s2 t (hw x hx) (hW o h1)⟩, fun hw hR => s3 t (hw o h1) (hR x hx)⟩
  have clo : ∀ D : Nat → Prop, (∀ x o, ops[x]? = some o → D x → ∀ e ∈ o.after.toList, Region.binds .any e = true → D e.on) → ∀ k j, D k → ord k j → D j := fun D hcl k j hD ho => by
    have ho : ordB (masks ops.toList 0 .leaf) k j = true := ho
    unfold ordB at ho
    cases hm : (masks ops.toList 0 .leaf).get k with
    | none => rw [hm] at ho; cases ho
    | some m =>
      rw [hm] at ho
      exact masks_spec (ops := ops.toList) ops.toList 0 .leaf rfl (fun k m hk => by rw [Tr.get_leaf] at hk; cases hk) k m hm D (fun x o hx => hcl x o (by simpa using hx)) hD j ho
  have main : ∀ fuel (listed : Array Bool) (U : List Nat) (a2 : Tr AV) (h2 : Heap) (ρ2 : Pm) (act2 : Act) (w2 : World), listed.size = ops.size → U.length ≤ fuel → (∀ j, j < ops.size → listed.getD j true = false → j ∈ U) →
      (∀ x o, ops[x]? = some o → listed.getD x false = true → ∀ e ∈ o.after.toList, Region.binds .any e = true → listed.getD e.on false = true) →
      InvD ops.size v Wh (fun j => listed.getD j false = true) (fun L => vl h2 L.1 L.2) → InvD ops.size vt Wt' (fun j => listed.getD j false = true) (fun t => a2.get t) → ρ.le ρ2 → Rep B ρ2 h2 w2 → Frm D ρ2 N a2 act2 → Below B w w2 → wpAny P .any ops Q fuel listed act2 w2 := by
    have bf : ∀ (listed : Array Bool), listed.size = ops.size → ∀ j, j < ops.size → (listed.getD j true = false ↔ ¬ listed.getD j false = true) := fun listed hs j hj => by
      rw [Array.getD_eq_getD_getElem?, Array.getD_eq_getD_getElem?, Array.getElem?_eq_getElem (by omega)]
      simp
    intro fuel
    induction fuel with
    | zero =>
      intro listed U a2 h2 ρ2 act2 w2 hs hU hU2 hcl iH iT hle hr2 hf2 hb2
      have hall : ∀ j, j < ops.size → listed.getD j false = true := fun j hj => by
        cases hx : listed.getD j false with
        | true => rfl
        | false =>
          have hx2 := (bf listed hs j hj).2 (by rw [hx]; simp)
          have := hU2 j hj hx2
          rw [List.eq_nil_of_length_eq_zero (Nat.le_zero.1 hU)] at this
          cases this
      refine ⟨?_, hk ρ2 act2 w2 hle ?_ ?_ hb2⟩
      · apply List.eq_nil_iff_forall_not_mem.2
        intro i hi
        obtain ⟨i1, i2, _⟩ := ready_iff.1 hi
        exact ((bf listed hs i i1).1 i2) (hall i i1)
      · have hv := inv_end Th iH hall
        rw [← g4]
        exact hr2.same (fun n => (vl_m (hv (n, none))).symm) (fun n i => (vl_c (hv (n, some i))).symm)
      · have hv := inv_end Tt iT hall
        rw [← g3]
        exact hf2.same (fun t => (hv t).symm)
    | succ fuel ih =>
      intro listed U a2 h2 ρ2 act2 w2 hs hU hU2 hcl iH iT hle hr2 hf2 hb2
      refine ⟨fun hnil => ?_, fun i hi => ?_⟩
      · have hall : ∀ j, j < ops.size → listed.getD j false = true := fun j => by
          induction j using Nat.strongRecOn with
          | _ j ihj =>
            intro hj
            cases hx : listed.getD j false with
            | true => rfl
            | false =>
              have : j ∈ Region.ready .any ops listed := ready_iff.2 ⟨hj, (bf listed hs j hj).2 (by rw [hx]; simp), fun o ho e he hb => by
                have := (statOK_spec hst ho).1 e he hb
                exact ihj _ this (by omega)⟩
              rw [hnil] at this
              cases this
        refine hk ρ2 act2 w2 hle ?_ ?_ hb2
        · have hv := inv_end Th iH hall
          rw [← g4]
          exact hr2.same (fun n => (vl_m (hv (n, none))).symm) (fun n i => (vl_c (hv (n, some i))).symm)
        · have hv := inv_end Tt iT hall
          rw [← g3]
          exact hf2.same (fun t => (hv t).symm)
      · obtain ⟨i1, i2, i3⟩ := ready_iff.1 hi
        obtain ⟨o, ho, hrun, _⟩ := run i i1
        have hni : ¬ listed.getD i false = true := (bf listed hs i i1).1 i2
        have hcl2 : ∀ k, k < ops.size → listed.getD k false = true → ∀ j, j < ops.size → ord k j → listed.getD j false = true := fun k hk2 hD j _ hoj => clo (fun j => listed.getD j false = true) hcl k j hD hoj
        have hp : ∀ j, j < i → ord i j → listed.getD j false = true := fun j hj hoj => by
          have := clo (fun x => listed.getD x false = true ∨ x = i) (fun x o2 hx hD e2 he2 hb2 => by
            rcases hD with hD | rfl
            · exact .inl (hcl x o2 hx hD e2 he2 hb2)
            · exact .inl (i3 o2 hx e2 he2 hb2)) i j (.inr rfl) hoj
          rcases this with h | h
          · exact h
          · omega
        have aH := inv_agree Th conh iH i1 hni hp hcl2
        have aT := inv_agree Tt cont iT i1 hni hp hcl2
        obtain ⟨b', hb', q1, q2⟩ := stp_frame (b := a2) (fun t ht => aT t (fun o2 ho2 => by rw [ho] at ho2; injection ho2 with ho2; rw [← ho2]; exact ht)) hrun
        obtain ⟨l, p1, p2, p3, p4⟩ := Loc.stp hX ops o a2 _ _ _ _ _ _ _ _ (Nat.le_refl _) hb'
        rw [List.append_nil] at p1
        subst p1
        obtain ⟨h2', r1, r2, r3⟩ := p4 h2 [] (fun n q hn => (aH (n, q) hn).symm)
        refine hop i o ho _ _ _ _ _ _ _ _ _ r1 D ρ2 act2 w2 _ Q (hz.trans hle) hr2 hf2 fun ρ3 act3 w3 hle3 hr3 hf3 hb3 => ?_
        have hset : ∀ j b, (listed.setIfInBounds i true).getD j b = if j = i then true else listed.getD j b := fun j b => by
          rw [Array.getD_eq_getD_getElem?, Array.getD_eq_getD_getElem?, Array.getElem?_setIfInBounds]
          by_cases hj : i = j
          · subst hj
            rw [if_pos rfl, if_pos rfl, if_pos (by omega)]; rfl
          · rw [if_neg hj, if_neg (fun e => hj e.symm)]
        have hD' : ∀ j, j < ops.size → ((listed.setIfInBounds i true).getD j false = true ↔ listed.getD j false = true ∨ j = i) := fun j _ => by
          rw [hset]
          by_cases hj : j = i
          · rw [if_pos hj]; simp [hj]
          · rw [if_neg hj]; simp [hj]
        refine ih (listed.setIfInBounds i true) (U.erase i) b' h2' ρ3 act3 w3 (by simpa using hs) ?_ ?_ ?_ ?_ ?_ (hle.trans hle3) hr3 hf3 (hb2.trans hb3)
        · have hm := hU2 i i1 i2
          rw [List.length_erase_of_mem hm]
          omega
        · intro j hj hx
          rw [hset] at hx
          by_cases hji : j = i
          · rw [if_pos hji] at hx; cases hx
          · rw [if_neg hji] at hx
            exact (List.mem_erase_of_ne hji).2 (hU2 j hj hx)
        · intro x o2 hx hD e2 he2 hb4
          rw [hset] at hD ⊢
          split
          · rfl
          · by_cases hxi : x = i
            · subst hxi
              exact i3 o2 hx e2 he2 hb4
            · rw [if_neg hxi] at hD
              exact hcl x o2 hx hD e2 he2 hb4
        · exact inv_step conh iH i1 hni hcl2 hD' (fun L hw => r2 L.1 L.2 hw) (fun L hw => r3 L.1 L.2 hw)
        · refine inv_step cont iT i1 hni hcl2 hD' (fun t hw => q1 t (hw o ho)) (fun t hw => (q2 t (fun hd => hw fun o2 ho2 => ?_)).1)
          rw [ho] at ho2
          injection ho2 with ho2
          rw [← ho2]
          exact hd
  have hf0 : ∀ j b, j < ops.size → (Array.replicate ops.size false).getD j b = false := fun j b hj => by
    rw [Array.getD_eq_getD_getElem?, Array.getElem?_replicate, if_pos hj]; rfl
  have hf1 : ∀ j, (Array.replicate ops.size false).getD j false = false := fun j => by
    rw [Array.getD_eq_getD_getElem?, Array.getElem?_replicate]
    split <;> rfl
  have sH := inv_start (n := ops.size) (v := v) (W := Wh) (D := fun j => (Array.replicate ops.size false).getD j false = true) (fun j hj => by rw [hf0 j _ hj]; simp)
  have sT := inv_start (n := ops.size) (v := vt) (W := Wt') (D := fun j => (Array.replicate ops.size false).getD j false = true) (fun j hj => by rw [hf0 j _ hj]; simp)
  have e0 : H 0 = h := gH
  have e1 : A 0 = a := gA
  refine main ops.size (Array.replicate ops.size false) (List.range ops.size) (A 0) (H 0) ρ act w (by simp) (by simp) (fun j hj _ => List.mem_range.2 hj) (fun x o hx hD => by rw [hf1] at hD; cases hD) sH sT (Pm.le.refl ρ) (e0 ▸ hr) (e1 ▸ hf) (Below.refl _ _)
end
end Go.Proofs.YtdkgckgpdogimaaGreatDoor

