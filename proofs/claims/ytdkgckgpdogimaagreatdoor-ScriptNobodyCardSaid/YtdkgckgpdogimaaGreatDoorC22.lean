/- The machine's builtins, in the program. -/
import Derived.Test.YtdkgckgpdogimaaGreatDoorC21
namespace Go.Proofs.YtdkgckgpdogimaaGreatDoor
open Go.RowKit
set_option linter.unusedVariables false
set_option linter.unusedSimpArgs false
set_option linter.unusedSectionVars false
variable [Sy] [Dc] [DcOK]

theorem rp_undef' {ρ : Pm} : (AV.tup []).rp ρ (.tuple #[]) := by
  simp only [AV.rp]
  exact ⟨#[], rfl, rps_nil.2 rfl⟩
section
variable {P : Program} {B : Nat} {lo : Nat} {h : Heap} {c : Nat} {lg : List Ev} {h' : Heap} {c' : Nat} {lg' : List Ev} {ρ : Pm} {w : World}
theorem goI_snd {n : Nat} {x : AV} {s : Sem Value} (e : goI n lo h c lg = .ok x h' c' lg') (hr : Rep B ρ h w) (hs : s.run P w = .ok (goInt n) w) : VRun P B s ρ w x h' := by
  unfold goI at e
  rw [fNat_eq] at e
  obtain ⟨rfl, rfl, _, _⟩ := ret_ok e
  exact VRun.here hs (by simp only [AV.rp]; rfl) hr
theorem slLen_snd {x : AV} {n : Nat} {v : Value} (hs : isSl x = true) (hn : lenV x = some n) (hx : x.rp ρ v) : ∃ a cc, v = .slice a n cc := by
  cases x with
  | nils => injection hn with hn; subst hn; simp only [AV.rp] at hx; exact ⟨_, _, hx⟩
  | emp => injection hn with hn; subst hn; simp only [AV.rp] at hx; obtain ⟨a, cc, hx⟩ := hx; exact ⟨_, _, hx⟩
  | oe n9 z9 f9 => injection hn with hn; subst hn; obtain ⟨a, cc, hx⟩ := oe_emp hx; exact ⟨_, _, hx⟩
  | sl m o len cap => injection hn with hn; subst hn; simp only [AV.rp] at hx; obtain ⟨b, f, cc, _, hx⟩ := hx; exact ⟨_, _, hx⟩
  | os m z f len => injection hn with hn; subst hn; simp only [AV.rp] at hx; obtain ⟨b, f, cc, _, _, hx⟩ := hx; exact ⟨_, _, hx⟩
  | _ => cases hs
theorem len_snd {ts : Array TypeId} {t ty : TypeId} {d : TypeDesc} {x y : AV} {v : Value} (ht : ts[0]? = some t) (hu : P.underlying t = some d) (e : lenM P d x lo h c lg = .ok y h' c' lg') (hr : Rep B ρ h w) (hx : x.rp ρ v) : VRun P B (Builtin.len_ ts ty #[v]) ρ w y h' := by
  unfold lenM at e
  split at e
  · refine goI_snd e hr ?_
    simp only [AV.rp] at hx
    obtain ⟨_, rfl⟩ := hx
    simp [Builtin.len_, ht, run_underlying hu, bytesOf_size, lenL_eq]
  · obtain ⟨h1, e⟩ := want_ok e
    obtain ⟨n, h2, e⟩ := need_ok e
    obtain ⟨a, cc, rfl⟩ := slLen_snd h1 h2 hx
    exact goI_snd e hr (by simp [Builtin.len_, ht, run_underlying hu])
  · exact goI_snd e hr (by cases v <;> simp [Builtin.len_, ht, run_underlying hu])
  · obtain ⟨p, h1, e⟩ := need_ok e
    exact goI_snd e hr (by cases v <;> simp [Builtin.len_, ht, run_underlying hu, run_underlying (elA_some h1)])
  · refine goI_snd e hr ?_
    simp only [AV.rp] at hx
    subst hx
    simp [Builtin.len_, ht, run_underlying hu]
  · simp only [AV.rp] at hx
    obtain ⟨b, f, cc, hn, rfl⟩ := hx
    obtain ⟨es, c2, lg2, hm, e⟩ := entM_ok e
    obtain ⟨hb, ms, clock, hms, hrel⟩ := hr.mapAt hm hn
    refine goI_snd e hr ?_
    have hl := hrel.1
    simp [Builtin.len_, ht, run_underlying hu, MapKept.run_getObj_map hms, lenL_eq, hl]
  · cases e
theorem cap_snd {ts : Array TypeId} {t ty : TypeId} {d : TypeDesc} {x y : AV} {v : Value} (ht : ts[0]? = some t) (hu : P.underlying t = some d) (e : capM d x lo h c lg = .ok y h' c' lg') (hr : Rep B ρ h w) (hx : x.rp ρ v) : VRun P B (Builtin.cap_ ts ty #[v]) ρ w y h' := by
  unfold capM at e
  split at e
  · refine goI_snd e hr ?_
    simp only [AV.rp] at hx
    subst hx
    simp [Builtin.cap_, ht, run_underlying hu]
  · refine goI_snd e hr ?_
    simp only [AV.rp] at hx
    obtain ⟨b, f, cc, _, rfl⟩ := hx
    simp [Builtin.cap_, ht, run_underlying hu]
  · cases e
theorem zeroAt_snd {e : TypeId} {m f cc b o len : Nat} {y : AV} (er : zeroAt P e m o len lo h c lg = .ok y h' c' lg') (hr : Rep B ρ h w) (hn : ρ m = some (b, f, cc)) :
    y = .tup [] ∧ ∃ zv w', (zeroValue e).run P w = .ok zv w ∧ (storeCells ⟨b, f + o, none⟩ (Builtin.zeroCells zv.cells len).toList).run P w = .ok () w' ∧ Rep B ρ h' w' ∧ Below B w w' := by
  obtain ⟨z, h3, e⟩ := need_ok (show need (zeroO P e) 97 (fun z => want (notup z) 97 (bnd (wrCs m (rdyL (repL len z.cells)) o) fun _ => ret (.tup []))) lo h c lg = .ok y h' c' lg' from er)
  obtain ⟨hnt, e⟩ := want_ok e
  obtain ⟨u, h1, c1, lg1, e1, e2⟩ := bnd_ok e
  obtain ⟨rfl, rfl, _, _⟩ := ret_ok e2
  rw [rdyL_eq] at e1
  obtain ⟨zv, hzrun, hzr, _, _⟩ := run_zeroO h3 w
  have hcs := rp_cells (hzr ρ) (notup_ne hnt)
  have hz := zeros_rps hcs len _ rfl
  obtain ⟨w', k1, k2, k3⟩ := put_snd (P := P) hn e1 hz hr
  refine ⟨rfl, zv, w', hzrun, ?_, k2, k3⟩
  rw [← k1]
  congr 2
  unfold Builtin.zeroCells
  rw [show z.cells.length = zv.cells.size from by have := (rps_at.1 hcs).1; simpa using this]
theorem clear_snd {ts : Array TypeId} {t ty : TypeId} {d : TypeDesc} {x y : AV} {v : Value} (ht : ts[0]? = some t) (hu : P.underlying t = some d) (e : clearM P d x lo h c lg = .ok y h' c' lg') (hr : Rep B ρ h w) (hx : x.rp ρ v) : VRun P B (Builtin.clear_ ts ty #[v]) ρ w y h' := by
  unfold clearM at e
  split at e
  · obtain ⟨rfl, rfl, _, _⟩ := ret_ok e
    simp only [AV.rp] at hx
    subst hx
    exact VRun.here (by simp [Builtin.clear_, ht, run_underlying hu]) rp_undef' hr
  · obtain ⟨rfl, rfl, _, _⟩ := ret_ok e
    simp only [AV.rp] at hx
    obtain ⟨a, cc, rfl⟩ := hx
    exact VRun.here (by simp [Builtin.clear_, ht, run_underlying hu]) rp_undef' hr
  · obtain ⟨rfl, rfl, _, _⟩ := ret_ok e
    obtain ⟨a, cc, rfl⟩ := oe_emp hx
    exact VRun.here (by simp [Builtin.clear_, ht, run_underlying hu]) rp_undef' hr
  · rename_i el m o len cap
    simp only [AV.rp] at hx
    obtain ⟨b, f, cc, hn, rfl⟩ := hx
    by_cases h0 : len = 0
    · subst h0
      obtain ⟨rfl, rfl, _, _⟩ := ret_ok (show ret (.tup []) lo h c lg = .ok y h' c' lg' from e)
      exact VRun.here (by simp [Builtin.clear_, ht, run_underlying hu]) rp_undef' hr
    · rw [beq_f h0, cond_false] at e
      obtain ⟨rfl, zv, w', k1, k2, k3, k4⟩ := zeroAt_snd e hr hn
      refine ⟨ρ, _, w', ?_, Pm.le.refl ρ, rp_undef', k3, k4⟩
      cases len with
      | zero => exact absurd rfl h0
      | succ q => simp [Builtin.clear_, ht, run_underlying hu, k1, k2, Result.andThen]
  · rename_i el m z f2 len
    simp only [AV.rp] at hx
    obtain ⟨b, f, cc, hn, _, rfl⟩ := hx
    by_cases h0 : len = 0
    · subst h0
      obtain ⟨rfl, rfl, _, _⟩ := ret_ok (show ret (.tup []) lo h c lg = .ok y h' c' lg' from e)
      exact VRun.here (by simp [Builtin.clear_, ht, run_underlying hu]) rp_undef' hr
    · rw [beq_f h0, cond_false] at e
      obtain ⟨rfl, zv, w', k1, k2, k3, k4⟩ := zeroAt_snd e hr hn
      refine ⟨ρ, _, w', ?_, Pm.le.refl ρ, rp_undef', k3, k4⟩
      have k2 : (storeCells ⟨b, f + f2 * z, none⟩ (Builtin.zeroCells zv.cells len).toList).run P w = .ok () w' := k2
      cases len with
      | zero => exact absurd rfl h0
      | succ q => simp [Builtin.clear_, ht, run_underlying hu, k1, k2, Result.andThen]
  · obtain ⟨rfl, rfl, _, _⟩ := ret_ok e
    simp only [AV.rp] at hx
    subst hx
    exact VRun.here (by simp [Builtin.clear_, ht, run_underlying hu]) rp_undef' hr
  · simp only [AV.rp] at hx
    obtain ⟨b, f, cc, hn, rfl⟩ := hx
    obtain ⟨es, c2, lg2, hm, e⟩ := entM_ok e
    obtain ⟨u, h1, c1, lg1, e1, e2⟩ := bnd_ok e
    obtain ⟨rfl, rfl, rfl, rfl⟩ := ret_ok e2
    obtain ⟨rfl, _⟩ := wrB_ok e1
    obtain ⟨hb, ms, clock, hms, hrel⟩ := hr.mapAt hm hn
    obtain ⟨k1, k2⟩ := hr.setMap hm hn (es' := []) (ms := #[]) (clock := clock) ⟨rfl, fun i p hp => by simp at hp⟩
    exact ⟨ρ, _, _, by simp [Builtin.clear_, ht, run_underlying hu, MapKept.run_getObj_map hms, MapKept.run_setObj_map _ hms, Result.andThen], Pm.le.refl ρ, rp_undef', k1, k2⟩
  · cases e
theorem min_snd : ∀ {l : List AV} {x y : AV} {vs : List Value} {v : Value}, foldV min2V l x = some y → x.rp ρ v → AV.rps ρ l vs → ∃ u, (vs.foldlM Builtin.min2 v : Sem Value).run P w = .ok u w ∧ y.rp ρ u
  | [], x, y, vs, v, e, hx, hl => by
    injection (show some x = some y from e) with e
    subst e
    rw [rps_nil] at hl
    subst hl
    exact ⟨v, rfl, hx⟩
  | z :: l, x, y, vs, v, e, hx, hl => by
    rw [rps_cons] at hl
    obtain ⟨u, m, rfl, hz, hl⟩ := hl
    obtain ⟨q, h1, e2⟩ := bind_some' (show (min2V x z).bind (foldV min2V l) = some y from e)
    unfold min2V at h1
    split at h1
    · rename_i k a k2 b
      injection h1 with h1
      simp only [AV.rp] at hx hz
      subst hx hz
      obtain ⟨u, h2, h3⟩ := min_snd (v := .int k (if b < a then b else a)) e2 (by rw [← h1, ltI_eq]; simp only [AV.rp]; by_cases hba : b < a <;> simp [hba]) hl
      exact ⟨u, by simpa [Builtin.min2] using h2, h3⟩
    · cases h1
theorem max_snd : ∀ {l : List AV} {x y : AV} {vs : List Value} {v : Value}, foldV max2V l x = some y → x.rp ρ v → AV.rps ρ l vs → ∃ u, (vs.foldlM Builtin.max2 v : Sem Value).run P w = .ok u w ∧ y.rp ρ u
  | [], x, y, vs, v, e, hx, hl => by
    injection (show some x = some y from e) with e
    subst e
    rw [rps_nil] at hl
    subst hl
    exact ⟨v, rfl, hx⟩
  | z :: l, x, y, vs, v, e, hx, hl => by
    rw [rps_cons] at hl
    obtain ⟨u, m, rfl, hz, hl⟩ := hl
    obtain ⟨q, h1, e2⟩ := bind_some' (show (max2V x z).bind (foldV max2V l) = some y from e)
    unfold max2V at h1
    split at h1
    · rename_i k a k2 b
      injection h1 with h1
      simp only [AV.rp] at hx hz
      subst hx hz
      obtain ⟨u, h2, h3⟩ := max_snd (v := .int k (if a < b then b else a)) e2 (by rw [← h1, ltI_eq]; simp only [AV.rp]; by_cases hba : a < b <;> simp [hba]) hl
      exact ⟨u, by simpa [Builtin.max2] using h2, h3⟩
    · cases h1
end
end Go.Proofs.YtdkgckgpdogimaaGreatDoor

