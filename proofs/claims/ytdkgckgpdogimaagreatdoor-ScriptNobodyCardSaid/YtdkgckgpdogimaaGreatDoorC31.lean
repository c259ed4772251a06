/- unack.Greatest for the machine, by its contract. -/
import Derived.Test.YtdkgckgpdogimaaGreatDoorC29
import Derived.Test.YtdkgckgpdogimaaGreatDoorC30
namespace Go.Proofs.YtdkgckgpdogimaaGreatDoor
open Go.RowKit
set_option linter.unusedVariables false
set_option linter.unusedSimpArgs false
set_option linter.unusedSectionVars false
variable [Sy] [Dc] [DcOK]

def pairV (x y : AV) : Option (Nat × Nat) := match x, y with
  | .int .u16 (.ofNat a), .int .u32 (.ofNat v) => some (a, v)
  | _, _ => none
noncomputable def pairS (x : AV) (p : Option AV) (ih : Option AV → Option (List (Nat × Nat))) : Option (List (Nat × Nat)) := match p with
  | none => ih (some x)
  | some q => (pairV q x).bind fun p => (ih none).map fun l => p :: l
noncomputable def pairsL (l : List AV) : Option AV → Option (List (Nat × Nat)) :=
  List.rec (motive := fun _ => Option AV → Option (List (Nat × Nat))) (fun p => match p with | none => some [] | some _ => none) (fun x _ ih p => pairS x p ih) l
theorem pairsL_two (x y : AV) (l : List AV) : pairsL (x :: y :: l) none = (pairV x y).bind fun p => (pairsL l none).map fun m => p :: m := rfl
theorem pairV_some {x y : AV} {p : Nat × Nat} (h : pairV x y = some p) : x = .int .u16 (p.1 : Int) ∧ y = .int .u32 (p.2 : Int) := by
  unfold pairV at h
  split at h
  · injection h with h; subst h; exact ⟨rfl, rfl⟩
  · cases h
theorem pairsL_some : ∀ (n : Nat) (l : List AV) (ps : List (Nat × Nat)), l.length ≤ n → pairsL l none = some ps → l.length = 2 * ps.length ∧ ∀ j p, ps[j]? = some p → l[2 * j]? = some (.int .u16 (p.1 : Int)) ∧ l[2 * j + 1]? = some (.int .u32 (p.2 : Int))
  | n, [], ps, _, h => by
    have h : some [] = some ps := h
    injection h with h
    subst h
    exact ⟨rfl, fun j p h => by simp at h⟩
  | n, [x], ps, _, h => by cases h
  | 0, x :: y :: l, ps, hn, h => by simp at hn
  | n + 1, x :: y :: l, ps, hn, h => by
    rw [pairsL_two] at h
    obtain ⟨p, h1, h2⟩ := bind_some' h
    obtain ⟨m, h3, rfl⟩ := Option.map_eq_some_iff.1 h2
    obtain ⟨h4, h5⟩ := pairsL_some n l m (by simp at hn; omega) h3
    obtain ⟨rfl, rfl⟩ := pairV_some h1
    refine ⟨by simp; omega, fun j q hq => ?_⟩
    cases j with
    | zero => simp at hq; subst hq; exact ⟨rfl, rfl⟩
    | succ j =>
      have := h5 j q (by simpa using hq)
      rw [show 2 * (j + 1) = 2 * j + 1 + 1 by omega]
      simpa using this
structure ItA where
  p : AV
  s : Int
  m : Nat
  ps : List (Nat × Nat)
noncomputable def itM (p q : AV) (k : M (List ItA)) : M (List ItA) := match q with
  | .int .i64 s => need (lenV p) 713 fun m => bnd (srcM 2 p m) fun d => need (pairsL d none) 714 fun ps => bnd k fun l => ret (⟨p, s, m, ps⟩ :: l)
  | _ => fail [715]
noncomputable def itS (x : AV) (p : Option AV) (ih : Option AV → M (List ItA)) : M (List ItA) := match p with
  | none => ih (some x)
  | some q => itM q x (ih none)
noncomputable def itsM (l : List AV) : Option AV → M (List ItA) :=
  List.rec (motive := fun _ => Option AV → M (List ItA)) (fun p => match p with | none => ret [] | some _ => fail [716]) (fun x _ ih p => itS x p ih) l
theorem itsM_two (x y : AV) (l : List AV) : itsM (x :: y :: l) none = itM x y (itsM l none) := rfl
noncomputable def mxA (id : Nat) (ps : List (Nat × Nat)) : Int → Int :=
  List.rec (motive := fun _ => Int → Int) (fun n => n) (fun p _ ih n => Bool.rec (motive := fun _ => Int) (ih n) (Bool.rec (motive := fun _ => Int) (ih n) (ih (.ofNat p.2)) (ltI n (.ofNat p.2))) (Nat.beq p.1 id)) ps
noncomputable def mxB (id : Nat) (l : List ItA) : Int → Int := List.rec (motive := fun _ => Int → Int) (fun n => n) (fun t _ ih n => fInt (mxA id t.ps n) ih) l
noncomputable def grM (args : List AV) : M AV :=
  match args with
  | [q, .int .u16 (.ofNat id), .int .i64 held] => need (lenV q) 712 fun n => want (Nat.blt n 1000) 717 (bnd (srcM 2 q n) fun c => bnd (itsM c none) fun l => want (l.all fun t => Nat.blt t.m 1000 && t.ps.all fun p => Nat.blt p.2 4294967296) 718 (fInt (mxB id l held) fun m => ret (.int .i64 m)))
  | _ => fail [719]
theorem loc_srcM2 (x : AV) (n : Nat) : Loc (srcM 2 x n) := loc_srcM 2 x n
theorem loc_itsM : ∀ (n : Nat) (l : List AV), l.length ≤ n → Loc (itsM l none)
  | n, [], _ => Loc.ret _
  | n, [x], _ => Loc.fail _
  | 0, x :: y :: l, h => by simp at h
  | n + 1, x :: y :: l, h => by
    rw [itsM_two]
    unfold itM
    split
    · exact Loc.need _ _ fun m => Loc.bnd (loc_srcM 2 _ _) fun d => Loc.need _ _ fun ps => Loc.bnd (loc_itsM n l (by simp at h; omega)) fun l => Loc.ret _
    · exact Loc.fail _
theorem loc_grM (args : List AV) : Loc (grM args) := by
  unfold grM
  split
  · refine Loc.need _ _ fun n => Loc.want _ _ (Loc.bnd (loc_srcM 2 _ _) fun c => Loc.bnd (loc_itsM _ c (Nat.le_refl _)) fun l => Loc.want _ _ ?_)
    rw [fInt_eq]
    exact Loc.ret _
  · exact Loc.fail _
theorem mxN_append (h : Int) (a b : List Nat) : mxN h (a ++ b) = mxN (mxN h a) b := by unfold mxN; rw [List.foldl_append]
def vals2 (id : Nat) (ps : List (Nat × Nat)) : List Nat := ps.filterMap fun p => if p.1 = id then some p.2 else none
theorem mxA_eq (id : Nat) : ∀ (ps : List (Nat × Nat)) (n : Int), mxA id ps n = mxN n (vals2 id ps)
  | [], n => rfl
  | p :: ps, n => by
    have e : mxA id (p :: ps) n = Bool.rec (motive := fun _ => Int) (mxA id ps n) (Bool.rec (motive := fun _ => Int) (mxA id ps n) (mxA id ps (.ofNat p.2)) (ltI n (.ofNat p.2))) (Nat.beq p.1 id) := rfl
    rw [e]
    by_cases h : p.1 = id
    · rw [beq_t h, ltI_eq]
      have ev : vals2 id (p :: ps) = p.2 :: vals2 id ps := by unfold vals2; rw [List.filterMap_cons]; simp [h]
      rw [ev]
      by_cases h2 : n < Int.ofNat p.2
      · rw [decide_eq_true h2]
        have : mxN n (p.2 :: vals2 id ps) = mxN (p.2 : Int) (vals2 id ps) := by unfold mxN; rw [List.foldl_cons, if_pos (show n < (p.2 : Int) from h2)]
        rw [this]
        exact mxA_eq id ps _
      · rw [decide_eq_false h2]
        have : mxN n (p.2 :: vals2 id ps) = mxN n (vals2 id ps) := by unfold mxN; rw [List.foldl_cons, if_neg (show ¬ n < (p.2 : Int) from h2)]
        rw [this]
        exact mxA_eq id ps _
    · rw [beq_f h]
      have ev : vals2 id (p :: ps) = vals2 id ps := by unfold vals2; rw [List.filterMap_cons]; simp [h]
      rw [ev]
      exact mxA_eq id ps _
theorem mxB_eq (id : Nat) : ∀ (l : List ItA) (n : Int), mxB id l n = mxN n (l.flatMap fun t => vals2 id t.ps)
  | [], n => rfl
  | t :: l, n => by
    have e : mxB id (t :: l) n = fInt (mxA id t.ps n) (mxB id l) := rfl
    rw [e, fInt_eq, mxA_eq, mxB_eq id l, List.flatMap_cons, mxN_append]
theorem range_map {α : Type} (d : α) (l : List α) : (List.range l.length).map (fun i => l.getD i d) = l := by
  apply List.ext_getElem
  · simp
  · intro i h1 h2
    simp [List.getD_eq_getElem?_getD, List.getElem?_eq_getElem h2]
theorem getD_some {α : Type} (d : α) {l : List α} {j : Nat} (h : j < l.length) : l[j]? = some (l.getD j d) := by
  rw [List.getD_eq_getElem?_getD, List.getElem?_eq_getElem h]
  rfl
def dflA : ItA := ⟨.nils, 0, 0, []⟩
theorem vsJ_list (id : Nat) (L : List ItA) (k : Nat) : vsJ id (fun k j => ((L.getD k dflA).ps.getD j (0, 0)).1) (fun k j => ((L.getD k dflA).ps.getD j (0, 0)).2) k (L.getD k dflA).ps.length = vals2 id (L.getD k dflA).ps := by
  unfold vsJ vals2
  conv => rhs; rw [← range_map (0, 0) (L.getD k dflA).ps]
  rw [List.filterMap_map]
  rfl
theorem xsK_list (id : Nat) (L : List ItA) : xsK id (fun k => (L.getD k dflA).ps.length) (fun k j => ((L.getD k dflA).ps.getD j (0, 0)).1) (fun k j => ((L.getD k dflA).ps.getD j (0, 0)).2) L.length = L.flatMap fun t => vals2 id t.ps := by
  unfold xsK
  conv => rhs; rw [← range_map dflA L]
  rw [List.flatMap_map]
  congr 1
  funext k
  exact vsJ_list id L k
/-- A cell, a place behind an address. -/
def CellV (w : World) (oa : Option Addr) (i : Nat) (v : Value) : Prop := ∃ b o arr el fz, oa = some ⟨b, o, none⟩ ∧ w.heap[b]? = some (.cells arr el fz) ∧ arr[o + i]? = some v
theorem CellV.two {w : World} {oa : Option Addr} {i j : Nat} {v u : Value} (h : CellV w oa i v) (k : CellV w oa j u) : ∃ b o arr el fz, oa = some ⟨b, o, none⟩ ∧ b ≠ w.heap.size ∧ w.heap[b]? = some (.cells arr el fz) ∧ arr[o + i]? = some v ∧ arr[o + j]? = some u := by
  obtain ⟨b, o, arr, el, fz, h1, h2, h3⟩ := h
  obtain ⟨b', o', arr', el', fz', k1, k2, k3⟩ := k
  rw [h1] at k1
  injection k1 with k1
  injection k1 with k1 k4
  subst k1 k4
  rw [h2] at k2
  injection k2 with k2
  injection k2 with k2 _ _
  subst k2
  exact ⟨b, o, arr, el, fz, h1, by have := (Array.getElem?_eq_some_iff.1 h2).1; omega, h2, h3, k3⟩
section
variable {B : Nat} {ρ : Pm} {w : World}
theorem src2_rows {x : AV} {n : Nat} {l : List AV} {v : Value} {lo : Nat} {h : Heap} {c : Nat} {lg : List Ev} {h' : Heap} {c' : Nat} {lg' : List Ev} (e : srcM 2 x n lo h c lg = .ok l h' c' lg') (hr : Rep B ρ h w) (hn : lenV x = some n) (hx : x.rp ρ v) :
    h' = h ∧ ∃ oa cap, v = .slice oa n cap ∧ ∀ i y, l[i]? = some y → ∃ u, CellV w oa i u ∧ y.rp ρ u := by
  have rows : ∀ {m o : Nat} {b f cc : Nat} {l : List AV}, rdCs m (Nat.mul n 2) o lo h c lg = .ok l h' c' lg' → ρ m = some (b, f, cc) → h' = h ∧ ∀ i y, l[i]? = some y → ∃ u, CellV w (some ⟨b, f + o, none⟩) i u ∧ y.rp ρ u := fun {m o b f cc l} e hm => by
    obtain ⟨rfl, _, g3, g4⟩ := rdCs_ok e
    refine ⟨rfl, fun i y hy => ?_⟩
    have hi := (List.getElem?_eq_some_iff.1 hy).1
    rw [g3] at hi
    obtain ⟨b', f', c2, u, arr, el, fz, k1, k2, k3, k4, k5, k6, k7⟩ := hr.cell ((g4 i hi).trans hy)
    rw [hm] at k1
    injection k1 with k1
    injection k1 with k1 k8
    injection k8 with k8 k9
    subst k1 k8 k9
    exact ⟨u, ⟨_, _, arr, el, fz, rfl, k3, by rw [Nat.add_assoc]; exact k4⟩, k6⟩
  cases x with
  | nils =>
    obtain ⟨rfl, rfl, _, _⟩ := ret_ok (show ret [] lo h c lg = .ok l h' c' lg' from e)
    simp only [AV.rp] at hx
    injection hn with hn
    subst hx hn
    exact ⟨rfl, none, 0, rfl, fun i y hy => by simp at hy⟩
  | emp =>
    obtain ⟨rfl, rfl, _, _⟩ := ret_ok (show ret [] lo h c lg = .ok l h' c' lg' from e)
    simp only [AV.rp] at hx
    obtain ⟨a, cc, rfl⟩ := hx
    injection hn with hn
    subst hn
    exact ⟨rfl, some a, cc, rfl, fun i y hy => by simp at hy⟩
  | oe n9 z9 f9 =>
    obtain ⟨rfl, rfl, _, _⟩ := ret_ok (show ret [] lo h c lg = .ok l h' c' lg' from e)
    obtain ⟨a, cc, rfl⟩ := oe_emp hx
    injection hn with hn
    subst hn
    exact ⟨rfl, some a, cc, rfl, fun i y hy => by simp at hy⟩
  | sl m o len cap =>
    simp only [AV.rp] at hx
    obtain ⟨b, f, cc, hm, rfl⟩ := hx
    injection hn with hn
    subst hn
    obtain ⟨h1, h2⟩ := rows (show rdCs m (Nat.mul len 2) o lo h c lg = .ok l h' c' lg' from e) hm
    exact ⟨h1, _, _, rfl, h2⟩
  | os m z f len =>
    simp only [AV.rp] at hx
    obtain ⟨b, g, cc, hm, hlc, rfl⟩ := hx
    injection hn with hn
    subst hn
    have e : (bif Nat.beq z 2 then rdCs m (Nat.mul len 2) (Nat.mul f z) else fail [60]) lo h c lg = .ok l h' c' lg' := e
    cases hz : Nat.beq z 2 with
    | false => rw [hz] at e; cases e
    | true =>
      rw [hz] at e
      obtain ⟨h1, h2⟩ := rows (show rdCs m (Nat.mul len 2) (Nat.mul f z) lo h c lg = .ok l h' c' lg' from e) hm
      exact ⟨h1, _, _, rfl, h2⟩
  | _ => cases e
def ItOK (w : World) (oa : Option Addr) (i : Nat) (t : ItA) (a : Option Addr × Nat) : Prop :=
  CellV w oa i (.slice a.1 t.ps.length a.2) ∧ CellV w oa (i + 1) (.int .i64 t.s) ∧ t.ps.length = t.m ∧ ∀ j p, t.ps[j]? = some p → CellV w a.1 (2 * j) (.int .u16 (p.1 : Int)) ∧ CellV w a.1 (2 * j + 1) (.int .u32 (p.2 : Int))
theorem itsM_snd {oa : Option Addr} : ∀ (N : Nat) (c : List AV) (i0 : Nat) (L : List ItA) {lo : Nat} {h : Heap} {c0 : Nat} {lg : List Ev} {h' : Heap} {c' : Nat} {lg' : List Ev}, c.length ≤ N → itsM c none lo h c0 lg = .ok L h' c' lg' → Rep B ρ h w → (∀ i y, c[i]? = some y → ∃ u, CellV w oa (i0 + i) u ∧ y.rp ρ u) →
    h' = h ∧ c.length = 2 * L.length ∧ ∃ A : List (Option Addr × Nat), A.length = L.length ∧ ∀ k t a, L[k]? = some t → A[k]? = some a → ItOK w oa (i0 + 2 * k) t a
  | n, [], i0, L, lo, h, c0, lg, h', c', lg', _, e, hr, _ => by
    obtain ⟨rfl, rfl, _, _⟩ := ret_ok (show ret [] lo h c0 lg = .ok L h' c' lg' from e)
    exact ⟨rfl, rfl, [], rfl, fun k t a h => by simp at h⟩
  | n, [x], i0, L, lo, h, c0, lg, h', c', lg', _, e, _, _ => by cases e
  | 0, x :: y :: c, i0, L, lo, h, c0, lg, h', c', lg', hn, _, _, _ => by simp at hn
  | n + 1, x :: y :: c, i0, L, lo, h, c0, lg, h', c', lg', hn, e, hr, hc => by
    rw [itsM_two] at e
    unfold itM at e
    split at e
    · rename_i s
      obtain ⟨m, h1, e⟩ := need_ok e
      obtain ⟨d, h2, c2, lg2, e1, e2⟩ := bnd_ok e
      obtain ⟨ps, h3, e3⟩ := need_ok e2
      obtain ⟨l, h4, c4, lg4, e4, e5⟩ := bnd_ok e3
      obtain ⟨rfl, rfl, _, _⟩ := ret_ok e5
      obtain ⟨u, k1, k2⟩ := hc 0 x rfl
      obtain ⟨u2, k3, k4⟩ := hc 1 (.int .i64 s) rfl
      simp only [AV.rp] at k4
      subst k4
      have hdl := src_len e1 h1
      obtain ⟨rfl, a, cap, rfl, k5⟩ := src2_rows e1 hr h1 k2
      obtain ⟨k6, k7⟩ := pairsL_some _ d ps (Nat.le_refl _) h3
      have hm : ps.length = m := by omega
      obtain ⟨g1, g2, A, g3, g4⟩ := itsM_snd n c (i0 + 2) l (by simp at hn; omega) e4 hr (fun i z hz => by
        have := hc (i + 2) z (by simpa using hz)
        rw [show i0 + 2 + i = i0 + (i + 2) by omega]
        exact this)
      refine ⟨g1, by simp; omega, (a, cap) :: A, by simp [g3], fun k t q ht hq => ?_⟩
      cases k with
      | zero =>
        simp at ht hq
        subst ht hq
        refine ⟨by rw [hm]; exact k1, k3, hm, fun j p hp => ?_⟩
        obtain ⟨q1, q2⟩ := k7 j p hp
        obtain ⟨v1, r1, r2⟩ := k5 _ _ q1
        obtain ⟨v2, r3, r4⟩ := k5 _ _ q2
        simp only [AV.rp] at r2 r4
        subst r2 r4
        exact ⟨r1, r3⟩
      | succ k =>
        have := g4 k t q (by simpa using ht) (by simpa using hq)
        rw [show i0 + 2 * (k + 1) = i0 + 2 + 2 * k by omega]
        exact this
    · cases e
theorem grM_snd {args : List AV} {lo : Nat} {h : Heap} {c : Nat} {lg : List Ev} {x : AV} {h' : Heap} {c' : Nat} {lg' : List Ev} (e : grM args lo h c lg = .ok x h' c' lg') {vs : Array Value}
    (hr : Rep B ρ h w) (hv : AV.rps ρ args vs.toList) (hN : NamesOK Tryz.prog) : CallRes Tryz.prog B 193 vs ρ w x h' := by
  unfold grM at e
  split at e
  · rename_i q id held
    obtain ⟨n, h1, e⟩ := need_ok e
    obtain ⟨hlt, e⟩ := want_ok e
    obtain ⟨c2, h2, c3, lg2, e1, e2⟩ := bnd_ok e
    obtain ⟨L, h4, c4, lg4, e3, e4⟩ := bnd_ok e2
    obtain ⟨hal, e5⟩ := want_ok e4
    rw [fInt_eq] at e5
    obtain ⟨rfl, rfl, _, _⟩ := ret_ok e5
    rw [rps_cons] at hv
    obtain ⟨v0, m0, hvs, k0, hv⟩ := hv
    obtain ⟨v1, v2, rfl, k1, k2⟩ := rps_two hv
    simp only [AV.rp] at k1 k2
    subst k1 k2
    obtain rfl : vs = #[v0, .int .u16 (Int.ofNat id), .int .i64 held] := by rw [← Array.toArray_toList (xs := vs), hvs]
    have hdl := src_len e1 h1
    obtain ⟨rfl, oa, cap, rfl, g1⟩ := src2_rows e1 hr h1 k0
    obtain ⟨rfl, g2, A, g3, g4⟩ := itsM_snd _ c2 0 L (Nat.le_refl _) e3 hr (fun i y hy => by rw [Nat.zero_add]; exact g1 i y hy)
    obtain rfl : n = L.length := by omega
    have hlt := blt_iff.1 hlt
    have hat : ∀ k, k < L.length → ∃ a, A[k]? = some a ∧ L[k]? = some (L.getD k dflA) ∧ ItOK w oa (2 * k) (L.getD k dflA) a := fun k hk => by
      have hL : L[k]? = some (L.getD k dflA) := by rw [List.getD_eq_getElem?_getD, List.getElem?_eq_getElem hk]; rfl
      refine ⟨A[k]'(by omega), List.getElem?_eq_getElem (by omega), hL, ?_⟩
      have := g4 k _ _ hL (List.getElem?_eq_getElem (by omega))
      rw [Nat.zero_add] at this
      exact this
    have hall := List.all_eq_true.1 hal
    have hpv : ∀ k j, ((L.getD k dflA).ps.getD j (0, 0)).2 < 4294967296 := fun k j => by
      by_cases hk : k < L.length
      · obtain ⟨a, _, hL, _⟩ := hat k hk
        have := hall _ (List.mem_of_getElem? hL)
        rw [Bool.and_eq_true] at this
        by_cases hj : j < (L.getD k dflA).ps.length
        · have h5 := List.all_eq_true.1 this.2 ((L.getD k dflA).ps.getD j (0, 0)) (List.mem_of_getElem? (getD_some (0, 0) hj))
          exact blt_iff.1 h5
        · rw [List.getD_eq_getElem?_getD, List.getElem?_eq_none (by omega)]
          decide
      · have : L.getD k dflA = dflA := by rw [List.getD_eq_getElem?_getD, List.getElem?_eq_none (by omega)]; rfl
        rw [this]
        show ((([] : List (Nat × Nat))[j]?).getD (0, 0)).2 < _
        simp
    have him : ∀ k, k < L.length → (L.getD k dflA).ps.length < 1000000 := fun k hk => by
      obtain ⟨a, _, hL, h5⟩ := hat k hk
      have := hall _ (List.mem_of_getElem? hL)
      rw [Bool.and_eq_true] at this
      have := blt_iff.1 this.1
      rw [h5.2.2.1]
      omega
    have hq : QRow w w.heap.size oa L.length (fun k => (A.getD k (none, 0)).1) (fun k => (L.getD k dflA).ps.length) (fun k => (A.getD k (none, 0)).2) (fun k => (L.getD k dflA).s) (fun k j => ((L.getD k dflA).ps.getD j (0, 0)).1) (fun k j => ((L.getD k dflA).ps.getD j (0, 0)).2) := by
      have hA : ∀ k a, A[k]? = some a → A.getD k (none, 0) = a := fun k a h => by rw [List.getD_eq_getElem?_getD, h]; rfl
      refine ⟨fun k hk => ?_, fun k hk j hj => ?_⟩
      · obtain ⟨a, h5, h6, h7⟩ := hat k hk
        rw [hA k a h5]
        exact CellV.two h7.1 h7.2.1
      · obtain ⟨a, h5, h6, h7⟩ := hat k hk
        rw [hA k a h5]
        obtain ⟨r1, r2⟩ := h7.2.2.2 j ((L.getD k dflA).ps.getD j (0, 0)) (getD_some (0, 0) hj)
        exact CellV.two r1 r2
    have hcall := greatest_any oa L.length cap id held w _ _ _ _ _ _ (by omega) him hpv hq
    rw [xsK_list, ← mxB_eq] at hcall
    refine .inl ⟨MuLone.run_callFunc_enter Tryz.func193 (hN _ _ _ Tryz.func193 rfl) rfl _ w, hcall.mono fun e w' ⟨h5, h6⟩ => ?_⟩
    exact ⟨ρ, _, h5, Pm.le.refl ρ, by simp only [AV.rp], hr.grow h6, below_grow hr h6⟩
  · cases e
end
end Go.Proofs.YtdkgckgpdogimaaGreatDoor

