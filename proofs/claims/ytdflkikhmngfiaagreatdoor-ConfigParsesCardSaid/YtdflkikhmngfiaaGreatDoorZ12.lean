/- EyWm · EyWn: joined by a program, for a claim has at most 60 files. -/
import Derived.Test.YtdflkikhmngfiaaGreatDoorZ11
import Derived.MapKept
/- The machine's maps, in the program. -/
namespace Go.Proofs.YtdflkikhmngfiaaGreatDoor
open Go.RowKit
set_option linter.unusedVariables false
set_option linter.unusedSimpArgs false
set_option linter.unusedSectionVars false
variable [Sy] [Dc] [DcOK]

/-- The entries of a map, told. -/
def mrel (ρ : Pm) (es : List (AV × AV)) (ms : List MapEntry) : Prop := es.length = ms.length ∧ ∀ (i : Nat) (p : AV × AV), es[i]? = some p → ∃ e, ms[i]? = some e ∧ p.1.rp ρ e.key ∧ p.2.rp ρ e.val
theorem keyV_is {ρ : Pm} {d : TypeDesc} {x : AV} {v : Value} (h : keyV d x = true) (hx : x.rp ρ v) : MapKept.IsKey d v := by
  unfold keyV at h
  split at h
  · rename_i k k' n
    simp only [AV.rp] at hx
    subst hx
    have h2 : k' = k := of_decide_eq_true h
    exact h2
  · simp only [AV.rp] at hx; obtain ⟨_, rfl⟩ := hx; trivial
  · simp only [AV.rp] at hx; subst hx; trivial
  · rename_i k k' n
    simp only [AV.rp, Sh.rp] at hx
    subst hx
    have h2 : k' = k := of_decide_eq_true h
    exact h2
  · simp only [AV.rp, Sh.rp] at hx; subst hx; trivial
  · cases h
theorem same_snd {ρ : Pm} {d : TypeDesc} {x y : AV} {r : Bool} {vx vy : Value} (hk : keyV d x = true) (e : eqC d x y = some r) (hx : x.rp ρ vx) (hy : y.rp ρ vy) : Instr.sameNow d vx vy = some r ∧ (r = true → vy = vx) := by
  unfold eqC at e
  split at e
  · rename_i k0 k a k' b
    obtain ⟨h1, e5⟩ := bif_some e
    have h1 := of_decide_eq_true h1
    subst h1
    injection e5 with e5
    simp only [AV.rp] at hx hy
    subst hx hy
    rw [eqI_eq] at e5
    subst e5
    exact ⟨by simp [Instr.sameNow], fun h => by rw [eq_of_beq h]⟩
  · injection e with e5
    simp only [AV.rp] at hx hy
    subst hx hy e5
    exact ⟨rfl, fun h => by rw [eq_of_beq h]⟩
  · injection e with e5
    simp only [AV.rp] at hx hy
    obtain ⟨h1, rfl⟩ := hx
    obtain ⟨h2, rfl⟩ := hy
    subst e5
    rw [eqL_eq]
    exact ⟨by rw [← eqL_eq, ← str_beq h1 h2]; rfl, fun h => by rw [eq_of_beq h]⟩
  all_goals first
    | (exfalso; revert hk; simp [keyV]; done)
    | skip
  unfold eqD at e
  split at e
  · rename_i k0
    obtain ⟨p, h1, e⟩ := bind_some' e
    obtain ⟨q, h2, e⟩ := bind_some' e
    obtain ⟨h3, e⟩ := bif_some e
    have h3 : p.1 = q.1 := of_decide_eq_true h3
    have h4 := dec_eq (f := fun p q => decide (p.den.i = q.den.i)) rfl (fun h => by rw [h]; simp) e
    rw [xi_rp h1 hx, xi_rp h2 hy, h3, ← h4]
    refine ⟨?_, fun h => by rw [of_decide_eq_true h]⟩
    simp only [Instr.sameNow]
    congr 1
  · obtain ⟨p, h1, e⟩ := bind_some' e
    obtain ⟨q, h2, e⟩ := bind_some' e
    have h4 := dec_eq (f := fun p q => decide (p.den.s = q.den.s)) rfl (fun h => by rw [h]; simp) e
    rw [xs_rp h1 hx, xs_rp h2 hy, ← h4]
    refine ⟨?_, fun h => by rw [of_decide_eq_true h]⟩
    show some (p.den.s == q.den.s) = _
    rw [beq_toListBytes, str_dec]
  · obtain ⟨p, h1, e⟩ := bind_some' e
    obtain ⟨q, h2, e⟩ := bind_some' e
    have h4 := dec_eq (f := fun p q => p.den.b == q.den.b) rfl (fun h => by rw [h]; simp) e
    rw [xb_rp h1 hx, xb_rp h2 hy, ← h4]
    exact ⟨rfl, fun h => by rw [eq_of_beq h]⟩
  · cases e
theorem mrel_cons {ρ : Pm} {p : AV × AV} {es : List (AV × AV)} {ms : List MapEntry} (h : mrel ρ (p :: es) ms) : ∃ e m, ms = e :: m ∧ p.1.rp ρ e.key ∧ p.2.rp ρ e.val ∧ mrel ρ es m := by
  obtain ⟨h1, h2⟩ := h
  cases ms with
  | nil => cases h1
  | cons e m =>
    obtain ⟨e', h3, h4, h5⟩ := h2 0 p rfl
    injection h3 with h3
    subst h3
    exact ⟨e, m, rfl, h4, h5, by simpa using h1, fun i q hq => h2 (i + 1) q (by simpa using hq)⟩
theorem findE_snd {ρ : Pm} {d : TypeDesc} {k : AV} {vk : Value} (hk : keyV d k = true) (hv : k.rp ρ vk) : ∀ {es : List (AV × AV)} {ms : List MapEntry} {i : Nat} {r : Option (Nat × AV)}, mrel ρ es ms → findE d k es i = some r →
    (r = none ∧ Instr.findNow d vk ms i = some none) ∨ ∃ j p e, r = some (i + j, p.2) ∧ es[j]? = some p ∧ ms[j]? = some e ∧ Instr.findNow d vk ms i = some (some (i + j, e.val)) ∧ e.key = vk ∧ p.2.rp ρ e.val
  | [], ms, i, r, hm, e => by
    injection (show some none = some r from e) with e
    subst e
    obtain ⟨h1, _⟩ := hm
    cases ms with
    | nil => exact .inl ⟨rfl, rfl⟩
    | cons _ _ => cases h1
  | p :: es, ms, i, r, hm, e => by
    obtain ⟨en, m, rfl, h1, h2, h3⟩ := mrel_cons hm
    cases hq : eqC d k p.1 with
    | none =>
      have e : Option.rec (motive := fun _ => Option (Option (Nat × AV))) none (fun b => Bool.rec (motive := fun _ => Option (Option (Nat × AV))) (findE d k es (Nat.succ i)) (some (some (i, p.2))) b) (eqC d k p.1) = some r := e
      rw [hq] at e
      cases e
    | some b =>
      have e : Option.rec (motive := fun _ => Option (Option (Nat × AV))) none (fun b => Bool.rec (motive := fun _ => Option (Option (Nat × AV))) (findE d k es (Nat.succ i)) (some (some (i, p.2))) b) (eqC d k p.1) = some r := e
      rw [hq] at e
      obtain ⟨s1, s2⟩ := same_snd hk hq hv h1
      cases b with
      | true =>
        injection (show some (some (i, p.2)) = some r from e) with e
        subst e
        exact .inr ⟨0, p, en, rfl, rfl, rfl, by simp [Instr.findNow, s1], s2 rfl, h2⟩
      | false =>
        have e : findE d k es (i + 1) = some r := e
        rcases findE_snd hk hv h3 e with ⟨h4, h5⟩ | ⟨j, q, e2, h4, h5, h6, h7, h8, h9⟩
        · exact .inl ⟨h4, by simp [Instr.findNow, s1, h5]⟩
        · exact .inr ⟨j + 1, q, e2, by rw [h4]; congr 2; omega, h5, h6, by simp [Instr.findNow, s1, h7]; omega, h8, h9⟩
section
variable {P : Program} {B : Nat} {lo : Nat} {h : Heap} {c : Nat} {lg : List Ev} {h' : Heap} {c' : Nat} {lg' : List Ev} {ρ : Pm} {w : World}
theorem Rep.mapAt (hr : Rep B ρ h w) {n : Nat} {es : List (AV × AV)} (hm : mt h n = .mp es) {b f cc : Nat} (hn : ρ n = some (b, f, cc)) : B ≤ b ∧ ∃ ms clock, w.heap[b]? = some (.map ms clock) ∧ mrel ρ es ms.toList := by
  obtain ⟨b', f', c', o, h1, h2, h3, h4⟩ := hr.live n (by rw [hm]; rfl)
  rw [hn] at h1
  injection h1 with h1
  injection h1 with h1 _
  subst h1
  rw [hm] at h4
  obtain ⟨ms, clock, rfl, h5, h6⟩ := h4
  exact ⟨h2, ms, clock, h3, by simpa using h5, fun i p hp => by simpa using h6 i p hp⟩
theorem Rep.setMap (hr : Rep B ρ h w) {n : Nat} {es es' : List (AV × AV)} (hm : mt h n = .mp es) {b f cc : Nat} (hn : ρ n = some (b, f, cc)) {ms : Array MapEntry} {clock : Nat} (hrel : mrel ρ es' ms.toList) :
    Rep B ρ (h.set n (.mp es')) { w with heap := w.heap.setIfInBounds b (.map ms clock) } ∧ Below B w { w with heap := w.heap.setIfInBounds b (.map ms clock) } := by
  obtain ⟨hb, ms0, clock0, hms, _⟩ := hr.mapAt hm hn
  obtain ⟨k1, k2⟩ := MapKept.heap_set (o' := .map ms clock) hms
  have hl : ∀ m, (mt (h.set n (.mp es')) m).live = true → (mt h m).live = true := fun m hm2 => by
    rw [mt_set] at hm2
    by_cases e : m = n
    · rw [e, hm]; rfl
    · rw [if_neg e] at hm2; exact hm2
  have hh : ∀ m, (mt (h.set n (.mp es')) m).held = true → (mt h m).held = true := fun m hm2 => by
    rw [mt_set] at hm2
    by_cases e : m = n
    · rw [e, hm]; rfl
    · rw [if_neg e] at hm2; exact hm2
  refine ⟨⟨by simpa using hr.size, fun m hm2 => ?_, fun m hm2 => ?_, fun m k p1 p2 p3 p4 p5 h1 h2 => hr.apart m k p1 p2 p3 p4 p5 (hh m h1) (hh k h2), Sy.keep hr.inv ⟨rfl, rfl, rfl, by simp, fun k hk => k2 k (by omega)⟩, fun b2 i2 v2 h2 => ?_, fun m p1 p2 p3 h1 => hr.sep m p1 p2 p3 (hl m h1), fun m el2 sh2 e2 h1 => ?_, hr.low, fun b2 o2 hb2 => ⟨by exact (k2 b2 (hr.gne (by rw [hm]; rfl) hn hb2)).trans (hr.gho b2 o2 hb2).1, fun m p q h1 => (hr.gho b2 o2 hb2).2 m p q (hh m h1)⟩⟩, rfl, rfl, rfl, by simp, fun k hk => k2 k (by omega)⟩
  · by_cases e : m = n
    · subst e
      refine ⟨b, f, cc, .map ms clock, hn, hb, k1, ?_⟩
      rw [mt_set, if_pos rfl]
      exact ⟨ms, clock, rfl, by simpa using hrel.1, fun i p hp => by simpa using hrel.2 i p hp⟩
    · obtain ⟨bm, fm, cm, o, p1, p2, p3, p4⟩ := hr.live m (hl m hm2)
      have hne : bm ≠ b := fun e2 => e (hr.apart m n b fm cm f cc (Mta.live_held (hl m hm2)) (by rw [hm]; rfl) (e2 ▸ p1) hn)
      refine ⟨bm, fm, cm, o, p1, p2, (k2 bm hne).trans p3, ?_⟩
      rw [mt_set, if_neg e, show cl (h.set n (.mp es')) m = cl h m from funext fun i => by rw [cl_set, if_neg e]]
      exact p4
  · rw [mt_set] at hm2
    by_cases e : m = n
    · rw [if_pos e] at hm2; cases hm2
    · rw [if_neg e] at hm2; exact hr.free m hm2
  · have hne : b2 ≠ b := fun e => by
      rw [e, hr.sep n b f cc (by rw [hm]; rfl) hn i2] at h2
      cases h2
    exact (cell_congr (k2 b2 hne) _ _).trans (hr.frz b2 i2 v2 h2)
  · rw [mt_set] at h1
    by_cases e : m = n
    · rw [if_pos e] at h1; cases h1
    · rw [if_neg e] at h1
      refine (hr.tok m el2 sh2 e2 h1).of rfl (fun _ _ _ _ _ => rfl) fun b3 f3 c3 hb3 => k2 b3 fun e3 => ?_
      subst e3
      exact e (hr.apart m n _ _ _ _ _ (by rw [h1]; rfl) (by rw [hm]; rfl) hb3 hn)
theorem wrB_ok {n : Nat} {b : Blk} {u : Unit} (e : wrB n b lo h c lg = .ok u h' c' lg') : h' = h.set n b ∧ c' = c := by
  obtain ⟨e1, e2, _⟩ := prim_ok e
  cases hx : h.get n with
  | none => rw [hx] at e1; cases e1
  | some b0 =>
    rw [hx] at e1
    injection e1 with e3 e4
    exact ⟨e4.symm, e2⟩
theorem entM_ok {n : Nat} {g : List (AV × AV) → M AV} {x : AV} (e : entM n g lo h c lg = .ok x h' c' lg') : ∃ es c2 lg2, mt h n = .mp es ∧ g es lo h c2 lg2 = .ok x h' c' lg' := by
  obtain ⟨m, h1, c1, lg1, e1, e2⟩ := bnd_ok e
  obtain ⟨rfl, _, e3⟩ := rdM_ok e1
  cases m with
  | mp es => exact ⟨es, _, _, e3, e2⟩
  | _ => cases e2
theorem mapT_some {t : TypeId} {p : TypeDesc × TypeId} (e : mapT P t = some p) : ∃ k, P.underlying t = some (.map k p.2) ∧ P.underlying k = some p.1 := by
  unfold mapT at e
  split at e
  · rename_i k el hu
    cases hk : P.underlying k with
    | none => rw [hk] at e; cases e
    | some d =>
      rw [hk] at e
      injection e with e
      subst e
      exact ⟨k, hu, hk⟩
  · cases e
theorem no_snd {e : TypeId} {ok : Bool} {x : AV} {vk : Value} {g : Sem Value} (er : noM P e ok lo h c lg = .ok x h' c' lg') (hr : Rep B ρ h w)
    (hg : ∀ z, (zeroValue e).run P w = .ok z w → g.run P w = .ok (if ok then .tuple #[z, .bool false] else z) w) : VRun P B g ρ w x h' := by
  obtain ⟨z, hz, er⟩ := need_ok (show need (zeroO P e) 82 (fun z => ret (bif ok then AV.tup [z, .bool false] else z)) lo h c lg = .ok x h' c' lg' from er)
  obtain ⟨rfl, rfl, _, _⟩ := ret_ok er
  obtain ⟨zv, h1, h2, _, _⟩ := run_zeroO hz w
  refine VRun.here (hg zv h1) ?_ hr
  cases ok with
  | true =>
    simp only [AV.rp, if_true, cond_true]
    exact ⟨_, rfl, rps_cons.2 ⟨_, _, rfl, h2 ρ, rps_cons.2 ⟨_, _, rfl, by simp only [AV.rp], rps_nil.2 rfl⟩⟩⟩
  | false => simpa using h2 ρ
theorem look_snd {t : TypeId} {x k y : AV} {ok : Bool} {vx vk : Value} (e : lookM P t x k ok lo h c lg = .ok y h' c' lg') (hr : Rep B ρ h w) (hx : x.rp ρ vx) (hk : k.rp ρ vk) : VRun P B (Instr.lookup t vx vk ok) ρ w y h' := by
  obtain ⟨p, hp, e⟩ := need_ok (show need (mapT P t) 81 (fun p => want (keyV p.1 k) 81 (match x with
    | .nilm => noM P p.2 ok
    | .map n => entM n fun es => need (findE p.1 k es 0) 83 fun r => lookE P p.2 ok r
    | _ => fail [84])) lo h c lg = .ok y h' c' lg' from e)
  obtain ⟨hkey, e⟩ := want_ok e
  obtain ⟨kt, hu, hd⟩ := mapT_some hp
  have ik := keyV_is hkey hk
  cases x with
  | nilm =>
    simp only [AV.rp] at hx
    subst hx
    exact no_snd (vk := vk) e hr fun z hz => by
      cases ok <;> simp [Instr.lookup, run_underlying hu, MapKept.run_checkKey hd ik, MapKept.run_findKey hd (show Instr.findNow p.1 vk [] 0 = some none from rfl), hz]
  | map n =>
    simp only [AV.rp] at hx
    obtain ⟨b, f, cc, hn, rfl⟩ := hx
    obtain ⟨es, c2, lg2, hm, e⟩ := entM_ok e
    obtain ⟨r, hf, e⟩ := need_ok e
    obtain ⟨hb, ms, clock, hms, hrel⟩ := hr.mapAt hm hn
    rcases findE_snd hkey hk hrel hf with ⟨rfl, h5⟩ | ⟨j, q, en, rfl, h5, h6, h7, h8, h9⟩
    · exact no_snd (vk := vk) e hr fun z hz => by
        cases ok <;> simp [Instr.lookup, run_underlying hu, MapKept.run_getObj_map hms, MapKept.run_checkKey hd ik, MapKept.run_findKey hd h5, hz]
    · obtain ⟨rfl, rfl, _, _⟩ := ret_ok (show ret (bif ok then AV.tup [q.2, .bool true] else q.2) lo h c2 lg2 = .ok y h' c' lg' from e)
      refine VRun.here (v := if ok then .tuple #[en.val, .bool true] else en.val) ?_ ?_ hr
      · cases ok <;> simp [Instr.lookup, run_underlying hu, MapKept.run_getObj_map hms, MapKept.run_checkKey hd ik, MapKept.run_findKey hd h7]
      · cases ok with
        | true =>
          simp only [AV.rp, if_true, cond_true]
          exact ⟨_, rfl, rps_cons.2 ⟨_, _, rfl, h9, rps_cons.2 ⟨_, _, rfl, by simp only [AV.rp], rps_nil.2 rfl⟩⟩⟩
        | false => simpa using h9
  | _ => cases e
theorem upd_snd {t : TypeId} {x k z y : AV} {vx vk vz : Value} (e : updM P t x k z lo h c lg = .ok y h' c' lg') (hr : Rep B ρ h w) (hx : x.rp ρ vx) (hk : k.rp ρ vk) (hz : z.rp ρ vz) : y = .tup [] ∧ URun P B (Instr.mapUpdate t vx vk vz) ρ w h' := by
  obtain ⟨p, hp, e⟩ := need_ok (show need (mapT P t) 85 (fun p => want (keyV p.1 k) 85 (match x with
    | .map n => entM n fun es => need (findE p.1 k es 0) 86 fun r => updE n es k z r
    | _ => fail [87])) lo h c lg = .ok y h' c' lg' from e)
  obtain ⟨hkey, e⟩ := want_ok e
  obtain ⟨kt, hu, hd⟩ := mapT_some hp
  have ik := keyV_is hkey hk
  cases x with
  | map n =>
    simp only [AV.rp] at hx
    obtain ⟨b, f, cc, hn, rfl⟩ := hx
    obtain ⟨es, c2, lg2, hm, e⟩ := entM_ok e
    obtain ⟨r, hf, e⟩ := need_ok e
    obtain ⟨hb, ms, clock, hms, hrel⟩ := hr.mapAt hm hn
    rcases findE_snd hkey hk hrel hf with ⟨rfl, h5⟩ | ⟨j, q, en, rfl, h5, h6, h7, h8, h9⟩
    · obtain ⟨u, h1, c1, lg1, e1, e2⟩ := bnd_ok (show bnd (wrB n (.mp (appL es [(k, z)]))) (fun _ => ret (.tup [])) lo h c2 lg2 = .ok y h' c' lg' from e)
      obtain ⟨rfl, rfl, rfl, rfl⟩ := ret_ok e2
      obtain ⟨rfl, _⟩ := wrB_ok e1
      obtain ⟨k1, k2⟩ := hr.setMap hm hn (es' := appL es [(k, z)]) (ms := ms.push { key := vk, val := vz, born := clock }) (clock := clock + 1) (by
        obtain ⟨l1, l2⟩ := hrel
        rw [appL_eq]
        refine ⟨by simpa using l1, fun i p hp => ?_⟩
        rw [List.getElem?_append] at hp
        rw [Array.toList_push, List.getElem?_append, ← l1]
        by_cases hi : i < es.length
        · rw [if_pos hi] at hp ⊢
          exact l2 i p hp
        · rw [if_neg hi] at hp ⊢
          cases hj : i - es.length with
          | zero =>
            rw [hj] at hp
            injection hp with hp
            subst hp
            exact ⟨_, rfl, hk, hz⟩
          | succ j => rw [hj] at hp; cases hp)
      exact ⟨rfl, ρ, _, by simp [Instr.mapUpdate, run_underlying hu, MapKept.run_getObj_map hms, MapKept.run_checkKey hd ik, MapKept.run_findKey hd h5, MapKept.run_setObj_map _ hms, Result.andThen], Pm.le.refl ρ, k1, k2⟩
    · obtain ⟨u, h1, c1, lg1, e1, e2⟩ := bnd_ok (show bnd (wrB n (.mp (setE es (0 + j) k z))) (fun _ => ret (.tup [])) lo h c2 lg2 = .ok y h' c' lg' from e)
      obtain ⟨rfl, rfl, rfl, rfl⟩ := ret_ok e2
      obtain ⟨rfl, _⟩ := wrB_ok e1
      have hjm : ms[j]? = some en := by simpa using h6
      obtain ⟨k1, k2⟩ := hr.setMap hm hn (es' := setE es (0 + j) k z) (ms := ms.modify (0 + j) fun e => { e with key := vk, val := vz }) (clock := clock) (by
        obtain ⟨l1, l2⟩ := hrel
        refine ⟨by simpa [setE] using l1, fun i p hp => ?_⟩
        unfold setE at hp
        rw [Nat.zero_add] at hp ⊢
        rw [List.getElem?_set] at hp
        rw [Array.toList_modify, List.getElem?_modify]
        by_cases hi : j = i
        · subst hi
          rw [if_pos rfl] at hp
          split at hp
          · injection hp with hp
            subst hp
            rw [h6]
            exact ⟨{ en with key := vk, val := vz }, by simp, hk, hz⟩
          · cases hp
        · rw [if_neg hi] at hp
          obtain ⟨e, g1, g2, g3⟩ := l2 i p hp
          exact ⟨e, by simp [hi, g1], g2, g3⟩)
      exact ⟨rfl, ρ, _, by simp [Instr.mapUpdate, run_underlying hu, MapKept.run_getObj_map hms, MapKept.run_checkKey hd ik, MapKept.run_findKey hd h7, hjm, h8, MapKept.run_keyThatStays ik, MapKept.run_setObj_map _ hms, Result.andThen], Pm.le.refl ρ, k1, k2⟩
  | _ => cases e
theorem del_snd {ts : Array TypeId} {t ty : TypeId} {x k y : AV} {vx vk : Value} (ht : ts[0]? = some t) (e : delM P t x k lo h c lg = .ok y h' c' lg') (hr : Rep B ρ h w) (hx : x.rp ρ vx) (hk : k.rp ρ vk) : VRun P B (Builtin.delete_ ts ty #[vx, vk]) ρ w y h' := by
  obtain ⟨p, hp, e⟩ := need_ok (show need (mapT P t) 88 (fun p => want (keyV p.1 k) 88 (match x with
    | .nilm => ret (.tup [])
    | .map n => entM n fun es => need (findE p.1 k es 0) 89 fun r => delE n es r
    | _ => fail [90])) lo h c lg = .ok y h' c' lg' from e)
  obtain ⟨hkey, e⟩ := want_ok e
  obtain ⟨kt, hu, hd⟩ := mapT_some hp
  have ik := keyV_is hkey hk
  have ru : (AV.tup []).rp ρ (.tuple #[]) := by simp only [AV.rp]; exact ⟨#[], rfl, rps_nil.2 rfl⟩
  cases x with
  | nilm =>
    simp only [AV.rp] at hx
    subst hx
    obtain ⟨rfl, rfl, _, _⟩ := ret_ok e
    exact VRun.here (by simp [Builtin.delete_, ht, run_underlying hu, MapKept.run_checkKey hd ik]) ru hr
  | map n =>
    simp only [AV.rp] at hx
    obtain ⟨b, f, cc, hn, rfl⟩ := hx
    obtain ⟨es, c2, lg2, hm, e⟩ := entM_ok e
    obtain ⟨r, hf, e⟩ := need_ok e
    obtain ⟨hb, ms, clock, hms, hrel⟩ := hr.mapAt hm hn
    rcases findE_snd hkey hk hrel hf with ⟨rfl, h5⟩ | ⟨j, q, en, rfl, h5, h6, h7, h8, h9⟩
    · obtain ⟨rfl, rfl, _, _⟩ := ret_ok (show ret (.tup []) lo h c2 lg2 = .ok y h' c' lg' from e)
      have hlt : b < w.heap.size := (Array.getElem?_eq_some_iff.1 hms).1
      have hsame : w.heap.setIfInBounds b (.map ms clock) = w.heap := by
        apply Array.ext_getElem?
        intro i
        rw [Array.getElem?_setIfInBounds]
        by_cases hi : b = i
        · subst hi; rw [if_pos rfl, if_pos hlt, hms]
        · rw [if_neg hi]
      exact VRun.here (by simp [Builtin.delete_, ht, run_underlying hu, MapKept.run_getObj_map hms, MapKept.run_checkKey hd ik, MapKept.run_findKey hd h5, MapKept.run_setObj_map _ hms, Result.andThen, hsame]) ru hr
    · obtain ⟨u, h1, c1, lg1, e1, e2⟩ := bnd_ok (show bnd (wrB n (.mp (es.eraseIdx (0 + j)))) (fun _ => ret (.tup [])) lo h c2 lg2 = .ok y h' c' lg' from e)
      obtain ⟨rfl, rfl, rfl, rfl⟩ := ret_ok e2
      obtain ⟨rfl, _⟩ := wrB_ok e1
      obtain ⟨k1, k2⟩ := hr.setMap hm hn (es' := es.eraseIdx (0 + j)) (ms := ms.eraseIdxIfInBounds (0 + j)) (clock := clock) (by
        obtain ⟨l1, l2⟩ := hrel
        rw [Array.toList_eraseIdxIfInBounds]
        refine ⟨by simp [List.length_eraseIdx, l1], fun i p hp => ?_⟩
        rw [List.getElem?_eraseIdx] at hp ⊢
        split at hp
        · rename_i hi; rw [if_pos hi]; exact l2 _ p hp
        · rename_i hi; rw [if_neg hi]; exact l2 _ p hp)
      exact ⟨ρ, _, _, by simp [Builtin.delete_, ht, run_underlying hu, MapKept.run_getObj_map hms, MapKept.run_checkKey hd ik, MapKept.run_findKey hd h7, MapKept.run_setObj_map _ hms, Result.andThen], Pm.le.refl ρ, ru, k1, k2⟩
  | _ => cases e
theorem mkmap_snd {x : AV} (e : (bnd (new (.mp [])) fun n => ret (AV.map n)) lo h c lg = .ok x h' c' lg') (hr : Rep B ρ h w) : VRun P B (do pure (.map (some (← newObj (.map #[] 0))))) ρ w x h' := by
  obtain ⟨n, h1, c1, lg1, e1, e2⟩ := bnd_ok e
  obtain ⟨rfl, rfl, rfl, rfl⟩ := ret_ok e2
  obtain ⟨hn, rfl, rfl, _, _⟩ := new_ok e1
  obtain ⟨ρ', k1, k2, k3, k4⟩ := hr.new hn (b := .mp []) rfl (c := 0) (o := .map #[] 0) (fun ρ' _ => ⟨#[], 0, rfl, rfl, fun i p hp => by simp at hp⟩)
  exact ⟨ρ', _, _, rfl, k1, by simp only [AV.rp]; exact ⟨_, _, _, k2, rfl⟩, k3, k4⟩
end
end Go.Proofs.YtdflkikhmngfiaaGreatDoor


/- The machine's builtins, in the program. -/
namespace Go.Proofs.YtdflkikhmngfiaaGreatDoor
open Go.RowKit
set_option linter.unusedVariables false
set_option linter.unusedSimpArgs false
set_option linter.unusedSectionVars false
variable [Sy] [Dc] [DcOK]

theorem rp_undef' {ρ : Pm} : (AV.tup []).rp ρ (.tuple #[]) := by
  simp only [AV.rp]
  exact ⟨#[], rfl, rps_nil.2 rfl⟩
section
variable {P : Program} {B : Nat} {lo : Nat} {h : Heap} {c : Nat} {lg : List Ev} {h' : Heap} {c' : Nat} {lg' : List Ev} {ρ : Pm} {w : World}
theorem goI_snd {n : Nat} {x : AV} {s : Sem Value} (e : goI n lo h c lg = .ok x h' c' lg') (hr : Rep B ρ h w) (hs : s.run P w = .ok (goInt n) w) : VRun P B s ρ w x h' := by
  unfold goI at e
  rw [fNat_eq] at e
  obtain ⟨rfl, rfl, _, _⟩ := ret_ok e
  exact VRun.here hs (by simp only [AV.rp]; rfl) hr
theorem slLen_snd {x : AV} {n : Nat} {v : Value} (hs : isSl x = true) (hn : lenV x = some n) (hx : x.rp ρ v) : ∃ a cc, v = .slice a n cc := by
  cases x with
  | nils => injection hn with hn; subst hn; simp only [AV.rp] at hx; exact ⟨_, _, hx⟩
  | emp => injection hn with hn; subst hn; simp only [AV.rp] at hx; obtain ⟨a, cc, hx⟩ := hx; exact ⟨_, _, hx⟩
  | oe n9 z9 f9 => injection hn with hn; subst hn; obtain ⟨a, cc, hx⟩ := oe_emp hx; exact ⟨_, _, hx⟩
  | sl m o len cap => injection hn with hn; subst hn; simp only [AV.rp] at hx; obtain ⟨b, f, cc, _, hx⟩ := hx; exact ⟨_, _, hx⟩
  | os m z f len => injection hn with hn; subst hn; simp only [AV.rp] at hx; obtain ⟨b, f, cc, _, _, hx⟩ := hx; exact ⟨_, _, hx⟩
  | _ => cases hs
theorem len_snd {ts : Array TypeId} {t ty : TypeId} {d : TypeDesc} {x y : AV} {v : Value} (ht : ts[0]? = some t) (hu : P.underlying t = some d) (e : lenM P d x lo h c lg = .ok y h' c' lg') (hr : Rep B ρ h w) (hx : x.rp ρ v) : VRun P B (Builtin.len_ ts ty #[v]) ρ w y h' := by
  unfold lenM at e
  split at e
  · refine goI_snd e hr ?_
    simp only [AV.rp] at hx
    obtain ⟨_, rfl⟩ := hx
    simp [Builtin.len_, ht, run_underlying hu, bytesOf_size, lenL_eq]
  · obtain ⟨h1, e⟩ := want_ok e
    obtain ⟨n, h2, e⟩ := need_ok e
    obtain ⟨a, cc, rfl⟩ := slLen_snd h1 h2 hx
    exact goI_snd e hr (by simp [Builtin.len_, ht, run_underlying hu])
  · exact goI_snd e hr (by cases v <;> simp [Builtin.len_, ht, run_underlying hu])
  · obtain ⟨p, h1, e⟩ := need_ok e
    exact goI_snd e hr (by cases v <;> simp [Builtin.len_, ht, run_underlying hu, run_underlying (elA_some h1)])
  · refine goI_snd e hr ?_
    simp only [AV.rp] at hx
    subst hx
    simp [Builtin.len_, ht, run_underlying hu]
  · simp only [AV.rp] at hx
    obtain ⟨b, f, cc, hn, rfl⟩ := hx
    obtain ⟨es, c2, lg2, hm, e⟩ := entM_ok e
    obtain ⟨hb, ms, clock, hms, hrel⟩ := hr.mapAt hm hn
    refine goI_snd e hr ?_
    have hl := hrel.1
    simp [Builtin.len_, ht, run_underlying hu, MapKept.run_getObj_map hms, lenL_eq, hl]
  · cases e
theorem cap_snd {ts : Array TypeId} {t ty : TypeId} {d : TypeDesc} {x y : AV} {v : Value} (ht : ts[0]? = some t) (hu : P.underlying t = some d) (e : capM d x lo h c lg = .ok y h' c' lg') (hr : Rep B ρ h w) (hx : x.rp ρ v) : VRun P B (Builtin.cap_ ts ty #[v]) ρ w y h' := by
  unfold capM at e
  split at e
  · refine goI_snd e hr ?_
    simp only [AV.rp] at hx
    subst hx
    simp [Builtin.cap_, ht, run_underlying hu]
  · refine goI_snd e hr ?_
    simp only [AV.rp] at hx
    obtain ⟨b, f, cc, _, rfl⟩ := hx
    simp [Builtin.cap_, ht, run_underlying hu]
  · cases e
theorem zeroAt_snd {e : TypeId} {m f cc b o len : Nat} {y : AV} (er : zeroAt P e m o len lo h c lg = .ok y h' c' lg') (hr : Rep B ρ h w) (hn : ρ m = some (b, f, cc)) :
    y = .tup [] ∧ ∃ zv w', (zeroValue e).run P w = .ok zv w ∧ (storeCells ⟨b, f + o, none⟩ (Builtin.zeroCells zv.cells len).toList).run P w = .ok () w' ∧ Rep B ρ h' w' ∧ Below B w w' := by
  obtain ⟨z, h3, e⟩ := need_ok (show need (zeroO P e) 97 (fun z => want (notup z) 97 (bnd (wrCs m (rdyL (repL len z.cells)) o) fun _ => ret (.tup []))) lo h c lg = .ok y h' c' lg' from er)
  obtain ⟨hnt, e⟩ := want_ok e
  obtain ⟨u, h1, c1, lg1, e1, e2⟩ := bnd_ok e
  obtain ⟨rfl, rfl, _, _⟩ := ret_ok e2
  rw [rdyL_eq] at e1
  obtain ⟨zv, hzrun, hzr, _, _⟩ := run_zeroO h3 w
  have hcs := rp_cells (hzr ρ) (notup_ne hnt)
  have hz := zeros_rps hcs len _ rfl
  obtain ⟨w', k1, k2, k3⟩ := put_snd (P := P) hn e1 hz hr
  refine ⟨rfl, zv, w', hzrun, ?_, k2, k3⟩
  rw [← k1]
  congr 2
  unfold Builtin.zeroCells
  rw [show z.cells.length = zv.cells.size from by have := (rps_at.1 hcs).1; simpa using this]
theorem clear_snd {ts : Array TypeId} {t ty : TypeId} {d : TypeDesc} {x y : AV} {v : Value} (ht : ts[0]? = some t) (hu : P.underlying t = some d) (e : clearM P d x lo h c lg = .ok y h' c' lg') (hr : Rep B ρ h w) (hx : x.rp ρ v) : VRun P B (Builtin.clear_ ts ty #[v]) ρ w y h' := by
  unfold clearM at e
  split at e
  · obtain ⟨rfl, rfl, _, _⟩ := ret_ok e
    simp only [AV.rp] at hx
    subst hx
    exact VRun.here (by simp [Builtin.clear_, ht, run_underlying hu]) rp_undef' hr
  · obtain ⟨rfl, rfl, _, _⟩ := ret_ok e
    simp only [AV.rp] at hx
    obtain ⟨a, cc, rfl⟩ := hx
    exact VRun.here (by simp [Builtin.clear_, ht, run_underlying hu]) rp_undef' hr
  · obtain ⟨rfl, rfl, _, _⟩ := ret_ok e
    obtain ⟨a, cc, rfl⟩ := oe_emp hx
    exact VRun.here (by simp [Builtin.clear_, ht, run_underlying hu]) rp_undef' hr
  · rename_i el m o len cap
    simp only [AV.rp] at hx
    obtain ⟨b, f, cc, hn, rfl⟩ := hx
    by_cases h0 : len = 0
    · subst h0
      obtain ⟨rfl, rfl, _, _⟩ := ret_ok (show ret (.tup []) lo h c lg = .ok y h' c' lg' from e)
      exact VRun.here (by simp [Builtin.clear_, ht, run_underlying hu]) rp_undef' hr
    · rw [beq_f h0, cond_false] at e
      obtain ⟨rfl, zv, w', k1, k2, k3, k4⟩ := zeroAt_snd e hr hn
      refine ⟨ρ, _, w', ?_, Pm.le.refl ρ, rp_undef', k3, k4⟩
      cases len with
      | zero => exact absurd rfl h0
      | succ q => simp [Builtin.clear_, ht, run_underlying hu, k1, k2, Result.andThen]
  · rename_i el m z f2 len
    simp only [AV.rp] at hx
    obtain ⟨b, f, cc, hn, _, rfl⟩ := hx
    by_cases h0 : len = 0
    · subst h0
      obtain ⟨rfl, rfl, _, _⟩ := ret_ok (show ret (.tup []) lo h c lg = .ok y h' c' lg' from e)
      exact VRun.here (by simp [Builtin.clear_, ht, run_underlying hu]) rp_undef' hr
    · rw [beq_f h0, cond_false] at e
      obtain ⟨rfl, zv, w', k1, k2, k3, k4⟩ := zeroAt_snd e hr hn
      refine ⟨ρ, _, w', ?_, Pm.le.refl ρ, rp_undef', k3, k4⟩
      have k2 : (storeCells ⟨b, f + f2 * z, none⟩ (Builtin.zeroCells zv.cells len).toList).run P w = .ok () w' := k2
      cases len with
      | zero => exact absurd rfl h0
      | succ q => simp [Builtin.clear_, ht, run_underlying hu, k1, k2, Result.andThen]
  · obtain ⟨rfl, rfl, _, _⟩ := ret_ok e
    simp only [AV.rp] at hx
    subst hx
    exact VRun.here (by simp [Builtin.clear_, ht, run_underlying hu]) rp_undef' hr
  · simp only [AV.rp] at hx
    obtain ⟨b, f, cc, hn, rfl⟩ := hx
    obtain ⟨es, c2, lg2, hm, e⟩ := entM_ok e
    obtain ⟨u, h1, c1, lg1, e1, e2⟩ := bnd_ok e
    obtain ⟨rfl, rfl, rfl, rfl⟩ := ret_ok e2
    obtain ⟨rfl, _⟩ := wrB_ok e1
    obtain ⟨hb, ms, clock, hms, hrel⟩ := hr.mapAt hm hn
    obtain ⟨k1, k2⟩ := hr.setMap hm hn (es' := []) (ms := #[]) (clock := clock) ⟨rfl, fun i p hp => by simp at hp⟩
    exact ⟨ρ, _, _, by simp [Builtin.clear_, ht, run_underlying hu, MapKept.run_getObj_map hms, MapKept.run_setObj_map _ hms, Result.andThen], Pm.le.refl ρ, rp_undef', k1, k2⟩
  · cases e
theorem min_snd : ∀ {l : List AV} {x y : AV} {vs : List Value} {v : Value}, foldV min2V l x = some y → x.rp ρ v → AV.rps ρ l vs → ∃ u, (vs.foldlM Builtin.min2 v : Sem Value).run P w = .ok u w ∧ y.rp ρ u
  | [], x, y, vs, v, e, hx, hl => by
    injection (show some x = some y from e) with e
    subst e
    rw [rps_nil] at hl
    subst hl
    exact ⟨v, rfl, hx⟩
  | z :: l, x, y, vs, v, e, hx, hl => by
    rw [rps_cons] at hl
    obtain ⟨u, m, rfl, hz, hl⟩ := hl
    obtain ⟨q, h1, e2⟩ := bind_some' (show (min2V x z).bind (foldV min2V l) = some y from e)
    unfold min2V at h1
    split at h1
    · rename_i k a k2 b
      injection h1 with h1
      simp only [AV.rp] at hx hz
      subst hx hz
      obtain ⟨u, h2, h3⟩ := min_snd (v := .int k (if b < a then b else a)) e2 (by rw [← h1, ltI_eq]; simp only [AV.rp]; by_cases hba : b < a <;> simp [hba]) hl
      exact ⟨u, by simpa [Builtin.min2] using h2, h3⟩
    · cases h1
theorem max_snd : ∀ {l : List AV} {x y : AV} {vs : List Value} {v : Value}, foldV max2V l x = some y → x.rp ρ v → AV.rps ρ l vs → ∃ u, (vs.foldlM Builtin.max2 v : Sem Value).run P w = .ok u w ∧ y.rp ρ u
  | [], x, y, vs, v, e, hx, hl => by
    injection (show some x = some y from e) with e
    subst e
    rw [rps_nil] at hl
    subst hl
    exact ⟨v, rfl, hx⟩
  | z :: l, x, y, vs, v, e, hx, hl => by
    rw [rps_cons] at hl
    obtain ⟨u, m, rfl, hz, hl⟩ := hl
    obtain ⟨q, h1, e2⟩ := bind_some' (show (max2V x z).bind (foldV max2V l) = some y from e)
    unfold max2V at h1
    split at h1
    · rename_i k a k2 b
      injection h1 with h1
      simp only [AV.rp] at hx hz
      subst hx hz
      obtain ⟨u, h2, h3⟩ := max_snd (v := .int k (if a < b then b else a)) e2 (by rw [← h1, ltI_eq]; simp only [AV.rp]; by_cases hba : a < b <;> simp [hba]) hl
      exact ⟨u, by simpa [Builtin.max2] using h2, h3⟩
    · cases h1
end
end Go.Proofs.YtdflkikhmngfiaaGreatDoor

