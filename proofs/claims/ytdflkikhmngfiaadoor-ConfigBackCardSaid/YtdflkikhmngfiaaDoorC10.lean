/- The machine's literals and made slices, in the program. -/
import Derived.Test.YtdflkikhmngfiaaDoorC09
import Derived.IntWalk
namespace Go.Proofs.YtdflkikhmngfiaaDoor
open Go.RowKit
set_option linter.unusedVariables false
set_option linter.unusedSimpArgs false
set_option linter.unusedSectionVars false
variable [Sy] [Dc] [DcOK]

theorem repL_succ {α : Type} (n : Nat) (l : List α) : repL (n + 1) l = l ++ repL n l := appL_eq l (repL n l)
theorem repL_len {α : Type} (l : List α) : ∀ n, (repL n l).length = n * l.length
  | 0 => by rw [Nat.zero_mul]; rfl
  | n + 1 => by rw [repL_succ, List.length_append, repL_len l n, Nat.succ_mul, Nat.add_comm]
theorem repL_get {α : Type} (l : List α) : ∀ n i, i < n * l.length → (repL n l)[i]? = l[i % l.length]?
  | 0, i, h => by omega
  | n + 1, i, h => by
    rw [repL_succ]
    rw [Nat.succ_mul] at h
    by_cases hi : i < l.length
    · rw [List.getElem?_append_left hi, Nat.mod_eq_of_lt hi]
    · rw [List.getElem?_append_right (by omega), repL_get l n _ (by omega)]
      congr 1
      exact (Nat.mod_eq_sub_mod (by omega)).symm
theorem zeros_rps {ρ : Pm} {l : List AV} {z : Array Value} (h : AV.rps ρ l z.toList) (n k : Nat) (hk : l.length = k) : AV.rps ρ (repL n l) ((Array.range (n * k)).map (z[· % z.size]!)).toList := by
  have hl := rps_length h
  simp at hl
  refine rps_at.2 ⟨by rw [repL_len]; simp [hk], fun i x hx => ?_⟩
  have hi : i < n * l.length := by rw [← repL_len]; exact (List.getElem?_eq_some_iff.1 hx).1
  rw [repL_get l n i hi] at hx
  obtain ⟨v, h1, h2⟩ := (rps_at.1 h).2 _ x hx
  refine ⟨v, ?_, h2⟩
  have h1 : z[i % z.size]? = some v := by rw [← hl]; simpa using h1
  have hlt : i % z.size < z.size := (Array.getElem?_eq_some_iff.1 h1).1
  have : i < n * k := by rw [← hk]; exact hi
  simp [this, getElem!_pos, hlt, (Array.getElem?_eq_some_iff.1 h1).2]
/-- Cells in a trie are the array's. -/
def TRel (ρ : Pm) (n : Nat) (t : Tr AV) (arr : Array Value) : Prop := arr.size = n ∧ ∀ i, i < n → ∃ x v, t.get i = some x ∧ arr[i]? = some v ∧ x.rp ρ v
theorem TRel.ofList {ρ : Pm} {l : List AV} {arr : Array Value} (h : AV.rps ρ l arr.toList) : TRel ρ l.length (Tr.ofList l) arr := by
  have hl := rps_length h
  simp at hl
  refine ⟨hl.symm, fun i hi => ?_⟩
  obtain ⟨x, hx⟩ : ∃ x, l[i]? = some x := ⟨l[i], List.getElem?_eq_getElem hi⟩
  obtain ⟨v, h1, h2⟩ := (rps_at.1 h).2 i x hx
  exact ⟨x, v, by rw [Tr.get_ofList]; exact hx, by simpa using h1, h2⟩
theorem TRel.list {ρ : Pm} {n : Nat} {t : Tr AV} {arr : Array Value} (h : TRel ρ n t arr) {l : List AV} (e : t.list n 0 = some l) : AV.rps ρ l arr.toList := by
  obtain ⟨h1, h2⟩ := Tr.list_spec t n 0 l e
  refine rps_at.2 ⟨by simp [h1, h.1], fun i x hx => ?_⟩
  have hi : i < n := by have := (List.getElem?_eq_some_iff.1 hx).1; omega
  obtain ⟨y, v, h3, h4, h5⟩ := h.2 i hi
  have := h2 i hi
  rw [Nat.zero_add, h3, hx] at this
  injection this with this
  subst this
  exact ⟨v, by simpa using h4, h5⟩
theorem fold_get (off : Nat) : ∀ (l : List Value) (k : Nat) (arr : Array Value), ((l.zipIdx k).foldl (fun cs p => cs.setIfInBounds (off + p.2) p.1) arr).size = arr.size ∧ ∀ i, ((l.zipIdx k).foldl (fun cs p => cs.setIfInBounds (off + p.2) p.1) arr)[i]? = if off + k ≤ i ∧ i < off + k + l.length ∧ i < arr.size then l[i - (off + k)]? else arr[i]?
  | [], k, arr => ⟨rfl, fun i => by rw [if_neg (by simp only [List.length_nil]; omega)]; rfl⟩
  | v :: l, k, arr => by
    rw [List.zipIdx_cons, List.foldl_cons]
    obtain ⟨h1, h2⟩ := fold_get off l (k + 1) (arr.setIfInBounds (off + k) v)
    refine ⟨by rw [h1]; simp, fun i => ?_⟩
    rw [h2 i, Array.size_setIfInBounds, Array.getElem?_setIfInBounds, List.length_cons]
    by_cases hi : off + (k + 1) ≤ i ∧ i < off + (k + 1) + l.length ∧ i < arr.size
    · rw [if_pos hi, if_pos (by omega), show i - (off + k) = (i - (off + (k + 1))) + 1 by omega, List.getElem?_cons_succ]
    · rw [if_neg hi]
      by_cases he : off + k = i
      · rw [if_pos he]
        by_cases hs : off + k < arr.size
        · rw [if_pos hs, if_pos (by omega), show i - (off + k) = 0 by omega]; rfl
        · rw [if_neg hs, if_neg (by omega)]
          rw [Array.getElem?_eq_none (by omega)]
      · rw [if_neg he, if_neg (by omega)]
def prel (ρ : Pm) : List (Nat × AV) → List (Nat × Value) → Prop
  | [], m => m = []
  | p :: l, m => ∃ v m', m = (p.1, v) :: m' ∧ p.2.rp ρ v ∧ prel ρ l m'
theorem layL_cons (n : Nat) (f : Nat → Option (Nat × Nat)) (p : Nat × AV) (ps : List (Nat × AV)) (t : Tr AV) : layL n f (p :: ps) t = (f p.1).bind fun q => bif Nat.beq (lenL p.2.cells) q.2 && (Nat.ble (Nat.add q.1 q.2) n && notup p.2) then layL n f ps (Tr.fill p.2.cells q.1 t) else none := rfl
theorem notup_ne {x : AV} (h : notup x = true) : ∀ l, x ≠ .tup l := fun l e => by subst e; cases h
theorem fill_snd {ρ : Pm} {n : Nat} {f place : Nat → Option (Nat × Nat)} (hp : ∀ i q, f i = some q → place i = some q) : ∀ {ps : List (Nat × AV)} {vs : List (Nat × Value)} {t t' : Tr AV} {arr : Array Value}, layL n f ps t = some t' → prel ρ ps vs → TRel ρ n t arr → ∃ arr', Instr.fill place arr vs = some arr' ∧ TRel ρ n t' arr'
  | [], vs, t, t', arr, e, hv, ht => by
    have e : some t = some t' := e
    injection e with e
    subst e
    unfold prel at hv
    subst hv
    exact ⟨arr, rfl, ht⟩
  | p :: ps, vs, t, t', arr, e, hv, ht => by
    unfold prel at hv
    obtain ⟨v, m, rfl, hx, hm⟩ := hv
    rw [layL_cons] at e
    obtain ⟨q, hq, e⟩ := bind_some' e
    obtain ⟨hb, e⟩ := bif_some e
    rw [Bool.and_eq_true, Bool.and_eq_true, Nat.beq_eq, Nat.ble_eq] at hb
    obtain ⟨hb1, hb2, hb3⟩ := hb
    rw [lenL_eq] at hb1
    have hb2 : q.1 + q.2 ≤ n := hb2
    have hcs := rp_cells hx (notup_ne hb3)
    have hlen := rps_length hcs
    simp at hlen
    have hsz : v.cells.size = q.2 := by omega
    let arr2 := v.cells.zipIdx.foldl (fun cs (p : Value × Nat) => cs.setIfInBounds (q.1 + p.2) p.1) arr
    have harr : arr2 = (v.cells.toList.zipIdx 0).foldl (fun cs p => cs.setIfInBounds (q.1 + p.2) p.1) arr := by
      show v.cells.zipIdx.foldl _ arr = _
      rw [← Array.foldl_toList, Array.toList_zipIdx]
    obtain ⟨g1, g2⟩ := fold_get q.1 v.cells.toList 0 arr
    rw [← harr] at g1 g2
    have ht2 : TRel ρ n (Tr.fill p.2.cells q.1 t) arr2 := by
      refine ⟨g1.trans ht.1, fun i hi => ?_⟩
      rw [Tr.get_fill, g2]
      have hsize := ht.1
      by_cases h : q.1 ≤ i ∧ i < q.1 + p.2.cells.length
      · rw [if_pos h, if_pos (by simp only [Array.length_toList]; omega)]
        obtain ⟨x, hx2⟩ : ∃ x, p.2.cells[i - q.1]? = some x := ⟨_, List.getElem?_eq_getElem (by omega)⟩
        obtain ⟨u, k1, k2⟩ := (rps_at.1 hcs).2 _ x hx2
        exact ⟨x, u, hx2, by rw [Nat.add_zero]; exact k1, k2⟩
      · rw [if_neg h, if_neg (by simp only [Array.length_toList]; omega)]
        exact ht.2 i hi
    obtain ⟨arr', k1, k2⟩ := fill_snd hp e hm ht2
    refine ⟨arr', ?_, k2⟩
    have hns : ¬ (v.cells.size ≠ q.2 ∨ q.1 + v.cells.size > arr.size) := by have := ht.1; omega
    unfold Instr.fill
    rw [hp _ _ hq]
    dsimp only
    rw [if_neg (by simpa using hns)]
    exact k1
theorem layL_out {n : Nat} {f : Nat → Option (Nat × Nat)} : ∀ {ps : List (Nat × AV)} {t t' : Tr AV}, layL n f ps t = some t' → ∀ j, n ≤ j → t'.get j = t.get j
  | [], t, t', e, j, hj => by
    have e : some t = some t' := e
    injection e with e
    rw [e]
  | p :: ps, t, t', e, j, hj => by
    rw [layL_cons] at e
    obtain ⟨q, hq, e⟩ := bind_some' e
    obtain ⟨hb, e⟩ := bif_some e
    rw [Bool.and_eq_true, Bool.and_eq_true, Nat.beq_eq, Nat.ble_eq] at hb
    obtain ⟨hb1, hb2, hb3⟩ := hb
    rw [lenL_eq] at hb1
    have hb2 : q.1 + q.2 ≤ n := hb2
    rw [layL_out e j hj, Tr.get_fill, if_neg (by omega)]
theorem zipP_cons (p : Nat × Operand) (ps : List (Nat × Operand)) (x : AV) (l : List AV) : zipP (p :: ps) (x :: l) = (p.1, x) :: zipP ps l := rfl
theorem zipP_prel {ρ : Pm} {ev : Operand → Value} : ∀ {ps : List (Nat × Operand)} {args : List AV}, AV.rps ρ args ((ps.map (·.2)).map ev) → prel ρ (zipP ps args) (ps.map fun p => (p.1, ev p.2))
  | [], args, h => by unfold prel zipP; rfl
  | p :: ps, args, h => by
    cases args with
    | nil => rw [rps_nil] at h; simp at h
    | cons x l =>
      rw [rps_cons] at h
      obtain ⟨y, m, h1, h2, h3⟩ := h
      simp only [List.map_cons, List.cons.injEq] at h1
      obtain ⟨rfl, rfl⟩ := h1
      rw [zipP_cons]
      unfold prel
      exact ⟨_, _, rfl, h2, zipP_prel h3⟩
section
variable {P : Program} {ρ : Pm} {w : World}
theorem places_some : ∀ {fs : List Field}, fs.all (fun f => (szO P f.type).isSome) = true → ∃ places, fs.mapM (fun f => (P.info? f.type).map fun i => (f.offset, i.size)) = some places ∧ ∀ i : Nat, places[i]? = (fs[i]?).bind fun f => (szO P f.type).map fun k => (f.offset, k)
  | [], _ => ⟨[], rfl, fun i => by simp⟩
  | f :: fs, h => by
    rw [List.all_cons, Bool.and_eq_true] at h
    obtain ⟨places, h1, h2⟩ := places_some h.2
    obtain ⟨k, hk⟩ := Option.isSome_iff_exists.1 h.1
    obtain ⟨i, hi, rfl⟩ := szO_some hk
    refine ⟨(f.offset, i.size) :: places, ?_, fun j => ?_⟩
    · simp [List.mapM_cons, hi, h1]
    · cases j with
      | zero => simp [hk]
      | succ j => simpa using h2 j
theorem build_snd {t : TypeId} {ps : List (Nat × AV)} {y : AV} {parts : Array (Nat × Value)} (e : buildV P t ps = some y) (hp : prel ρ ps parts.toList) : ∃ u, (Instr.build t parts).run P w = .ok u w ∧ y.rp ρ u := by
  obtain ⟨z, hz, e⟩ := bind_some' (show (zeroO P t).bind _ = some y from e)
  obtain ⟨hnt, e⟩ := bif_some e
  rw [fNat_eq, lenL_eq] at e
  obtain ⟨zv, _, hzr, ⟨it, hit, hitz⟩, hofz⟩ := run_zeroO hz w
  have hcs := rp_cells (hzr ρ) (notup_ne hnt)
  have ht0 := TRel.ofList hcs
  split at e
  · rename_i fs hu
    obtain ⟨hall, e⟩ := bif_some e
    obtain ⟨tr, h1, e⟩ := bind_some' e
    obtain ⟨places, g1, g2⟩ := places_some hall
    obtain ⟨arr, k1, k2⟩ := fill_snd (place := (places.toArray[·]?)) (fun i q hq => by
      have := g2 i
      simp only [List.getElem?_toArray]
      rw [this, ← Array.getElem?_toList] at *
      simpa using hq) h1 hp ht0
    cases hl : tr.list z.cells.length 0 with
    | none => rw [hl] at e; cases e
    | some l =>
      rw [hl] at e
      injection e with e
      subst e
      refine ⟨.agg arr, run_build w t parts arr ?_, by simp only [AV.rp]; exact ⟨arr, rfl, k2.list hl⟩⟩
      unfold Program.built
      rw [hit, hu]
      dsimp only
      rw [hitz, g1]
      exact k1
  · rename_i m el hu
    obtain ⟨k, hk, e5⟩ := bind_some' e
    obtain ⟨tr, h1, e6⟩ := bind_some' e5
    obtain ⟨i, hi, rfl⟩ := szO_some hk
    clear e e5
    obtain ⟨arr, k1, k2⟩ := fill_snd (place := fun j => some (j * i.size, i.size)) (fun j q hq => hq) h1 hp ht0
    cases hl : tr.list z.cells.length 0 with
    | none => rw [hl] at e6; cases e6
    | some l =>
      rw [hl] at e6
      injection e6 with e6
      subst e6
      refine ⟨.agg arr, run_build w t parts arr ?_, by simp only [AV.rp]; exact ⟨arr, rfl, k2.list hl⟩⟩
      unfold Program.built
      rw [hit, hu]
      dsimp only
      rw [hitz, hi]
      exact k1
  · cases e
end
section
variable {P : Program} {B : Nat} {lo : Nat} {h : Heap} {c : Nat} {lg : List Ev} {h' : Heap} {c' : Nat} {lg' : List Ev} {ρ : Pm} {w : World}
theorem buildSlice_snd {t : TypeId} {len : Nat} {ps : List (Nat × AV)} {parts : Array (Nat × Value)} {y : AV} (e : buildSliceM P t len ps lo h c lg = .ok y h' c' lg') (hr : Rep B ρ h w) (hp : prel ρ ps parts.toList) : VRun P B (Instr.buildSlice t len parts) ρ w y h' := by
  obtain ⟨el, h1, e⟩ := need_ok (show need (elS P t) 110 _ lo h c lg = .ok y h' c' lg' from e)
  obtain ⟨k, h2, e⟩ := need_ok e
  obtain ⟨z, h3, e⟩ := need_ok e
  obtain ⟨hb, e⟩ := want_ok e
  obtain ⟨hb2, e⟩ := want_ok e
  rw [fNat_eq] at e
  obtain ⟨tr, h4, e⟩ := need_ok e
  obtain ⟨n, h5, c5, lg5, e1, e2⟩ := bnd_ok e
  obtain ⟨rfl, rfl, rfl, rfl⟩ := ret_ok e2
  rw [Bool.and_eq_true, Nat.beq_eq, lenL_eq] at hb2
  obtain ⟨hzl, hnt⟩ := hb2
  have hb : len * k ≤ 100000 := by rw [Nat.ble_eq] at hb; exact hb
  obtain ⟨zv, hzrun, hzr, ⟨it, hit, hitz⟩, hofz⟩ := run_zeroO h3 w
  have hcs := rp_cells (hzr ρ) (notup_ne hnt)
  have hu := elS_some h1
  obtain ⟨i, hi, rfl⟩ := szO_some h2
  have h0 := zeros_rps hcs len i.size hzl
  have ht0 := TRel.ofList h0
  have hn0 : (repL len z.cells).length = len * i.size := by rw [repL_len, hzl]
  rw [hn0] at ht0
  obtain ⟨arr, k1, k2⟩ := fill_snd (place := fun j => some (j * i.size, i.size)) (fun j q hq => hq) h4 hp ht0
  obtain ⟨q0, rfl, rfl, _, _⟩ := new_ok e1
  obtain ⟨ρ', m1, m2, m3, m4⟩ := hr.new (c := 0) (o := .cells arr el) q0 (b := .row el i.size (Nat.mul len i.size) tr false) rfl (fun ρ' hle => by
    refine ⟨arr, (0, 0), rfl, .inl rfl, fun j x hx => ?_, fun ho => by cases ho⟩
    have hx : tr.get j = some x := hx
    rw [Nat.zero_add]
    have hj : j < len * i.size ∨ ¬ j < len * i.size := by omega
    rcases hj with hj | hj
    · obtain ⟨x2, v, g1, g2, g3⟩ := k2.2 j hj
      rw [hx] at g1
      injection g1 with g1
      subst g1
      exact ⟨v, g2, g3.mono hle⟩
    · exact absurd hx (by rw [layL_out h4 j (by show len * i.size ≤ j; omega), Tr.get_ofList, List.getElem?_eq_none (by omega)]; simp))
  refine ⟨ρ', .slice (some ⟨w.heap.size, 0, none⟩) len len, w.alloc (.cells arr el), ?_, m1, by simp only [AV.rp]; exact ⟨_, _, _, m2, rfl⟩, m3, m4⟩
  have hsmall : ¬ len * i.size > 16777216 := by omega
  by_cases hz0 : len * i.size = 0
  · have hf : Instr.fill (fun j => some (j * i.size, i.size)) ((Array.range (len * i.size)).map ((#[] : Array Value)[· % (#[] : Array Value).size]!)) parts.toList = some arr := by
      rw [← k1]
      congr 1
      rw [hz0]
      simp
    simp [Instr.buildSlice, run_underlying hu, sizeOf, typeInfo, hi, hsmall, hz0, newRow] at hf ⊢
    simp [hf]
  · obtain rfl : i = it := by rw [hi] at hit; injection hit
    simp [Instr.buildSlice, run_underlying hu, sizeOf, typeInfo, zeroValue, hi, hitz, hsmall, hz0, k1, newRow]
theorem makeSlice_snd {t : TypeId} {l k : AV} {vl vk : Value} {y : AV} (e : makeSliceM P t l k lo h c lg = .ok y h' c' lg') (hr : Rep B ρ h w) (hl : l.rp ρ vl) (hk : k.rp ρ vk) : VRun P B (Instr.makeSlice t vl vk) ρ w y h' := by
  unfold makeSliceM at e
  split at e
  · rename_i kl n kk cp
    simp only [AV.rp] at hl hk
    subst hl hk
    obtain ⟨el, h1, e⟩ := need_ok e
    obtain ⟨sz, h2, e⟩ := need_ok e
    obtain ⟨z, h3, e⟩ := need_ok e
    obtain ⟨hb, e⟩ := want_ok e
    obtain ⟨q, h5, c5, lg5, e1, e2⟩ := bnd_ok e
    obtain ⟨rfl, rfl, rfl, rfl⟩ := ret_ok e2
    rw [Bool.and_eq_true, Bool.and_eq_true, Bool.and_eq_true, Bool.and_eq_true, Nat.ble_eq, Nat.ble_eq, Nat.ble_eq, Nat.beq_eq, lenL_eq] at hb
    obtain ⟨b1, b2, b3, hzl, hnt⟩ := hb
    obtain ⟨zv, hzrun, hzr, ⟨it, hit, hitz⟩, hofz⟩ := run_zeroO h3 w
    have hcs := rp_cells (hzr ρ) (notup_ne hnt)
    have hu := elS_some h1
    obtain ⟨i, hi, rfl⟩ := szO_some h2
    have h0 := zeros_rps hcs cp i.size hzl
    rw [rdyL_eq] at e1
    obtain ⟨ρ', m1, m2, m3, m4⟩ := newRow_snd e1 hr h0 0
    refine ⟨ρ', .slice (some ⟨w.heap.size, 0, none⟩) n cp, w.alloc (.cells _ el), ?_, m1, by simp only [AV.rp]; exact ⟨_, _, _, m2, rfl⟩, m3, m4⟩
    have b3 : i.bytes ≤ 10000 := by simpa [Program.bytesOf, hi] using b3
    have hwn : IntKind.i64.wrap (n : Int) = (n : Int) := IntWalk.i64_in _ (by omega)
    have hwc : IntKind.i64.wrap (cp : Int) = (cp : Int) := IntWalk.i64_in _ (by omega)
    have hbig : ¬ ((i.bytes : Int) * (cp : Int) > 281474976710656) := by
      have : i.bytes * cp ≤ 10000 * 10000 := Nat.mul_le_mul b3 b2
      have h2 : ((i.bytes * cp : Nat) : Int) ≤ ((10000 * 10000 : Nat) : Int) := by exact_mod_cast this
      rw [Int.natCast_mul] at h2
      omega
    obtain rfl : i = it := by rw [hi] at hit; injection hit
    have hc0 : ¬ ((cp : Int) < 0) := by omega
    have hn0 : ¬ ((n : Int) < 0) := by omega
    have hnc : ¬ ((cp : Int) < (n : Int)) := by omega
    have hbig2 : ¬ (281474976710656 < (i.bytes : Int) * (cp : Int)) := hbig
    by_cases hz0 : cp * i.size = 0
    · simp [Instr.makeSlice, run_underlying hu, asInt, asIntOf, sizeOf, typeInfo, zeroValue, hi, hitz, hwn, hwc, hc0, hn0, hnc, hbig2, hz0, newRow]
      rw [show Array.range 0 = #[] from rfl]
      simp
    · simp [Instr.makeSlice, run_underlying hu, asInt, asIntOf, sizeOf, typeInfo, zeroValue, hi, hitz, hwn, hwc, hc0, hn0, hnc, hbig2, hz0, newRow]
  · cases e
end
end Go.Proofs.YtdflkikhmngfiaaDoor

