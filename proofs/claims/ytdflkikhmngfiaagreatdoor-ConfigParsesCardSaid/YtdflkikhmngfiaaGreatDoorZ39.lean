/- config.Parse. -/
import Derived.Test.YtdflkikhmngfiaaGreatDoorZ35
import Derived.Test.YtdflkikhmngfiaaGreatDoorZ37
import Derived.Test.YtdflkikhmngfiaaGreatDoorZ38
import Derived.Laws.Rows
namespace Go.Proofs.YtdflkikhmngfiaaGreatDoor
open Go.RowKit Go.Shelf
set_option linter.unusedVariables false
set_option linter.unusedSimpArgs false
attribute [local go_sem] Oper.semAt_some

/-- Lines, one behind the other. -/
def goF : List (Nat × ByteArray) → (Nat → PV) → List ByteArray → Sum (Nat × Int) ((Nat → PV) × List ByteArray)
  | [], c, L => .inr (c, L)
  | x :: r, c, L => if (lineF c L x.2).1 = 0 then goF r (lineF c L x.2).2.1 (lineF c L x.2).2.2 else .inl (x.1, (lineF c L x.2).1)
def usC (j : Nat) : PV := usualP.cl j
def rowC (c : Nat → PV) : PV := .tup ((List.range 15).map c)
def zeroC : PV := .tup (List.replicate 15 (.int 0))
/-- A text, parsed. -/
def parseF [S : Sy] (s : ByteArray) : PV := match goF (linesF s) usC [] with
  | .inl (n, e) => .tup [zeroC, .int n, .int e]
  | .inr (c, _) => if (S.fn 12 [rowC c]).i = 0 then .tup [rowC c, .int 0, .int 0] else .tup [zeroC, .int 0, .int (S.fn 12 [rowC c]).i]
structure PaS (S : Sy) : Prop extends MlS S, CkS S
abbrev zrow : Array Value := #[.int .i64 0, .int .i64 0, .int .i64 0, .int .i64 0, .int .i64 0, .int .i64 0, .int .i64 0, .int .i64 0, .int .i64 0, .int .i64 0, .int .i64 0, .int .i64 0, .int .i64 0, .int .i64 0, .int .i64 0]
abbrev urow : Array Value := #[.int .i64 8, .int .i64 16, .int .i64 1, .int .i64 10, .int .i64 100, .int .i64 5, .int .i64 20, .int .i64 1, .int .i64 1, .int .i64 1000, .int .i64 4, .int .i64 8, .int .i64 4, .int .i64 10, .int .i64 100]
theorem usual_any {S : Sy} (hS : PaS S) (w : World) (hi : S.inv w.heap.size w) : Calls Tryz.prog 13 #[] w fun e w' => e = .returned (.agg urow) ∧ Below w.heap.size w w' := by
  refine ((usual_ok hS.toCkS).2 (fun _ _ => none) w [] #[] (fun _ _ _ h => by cases h) hi ⟨rfl, rfl⟩ (fun _ h => by cases h)).mono ?_
  rintro e w' ⟨v, rfl, h0, hb⟩
  refine ⟨?_, hb⟩
  have h1 : resOK (growF (fun _ _ => none) w w') [.agg i15] (S.fn 15 []) v := h0
  rw [hS.usual] at h1
  clear h0
  obtain ⟨a, rfl, h⟩ := h1
  congr 2
  have : ∀ (l : List Sh) (p : PV) (j : Nat) (m : List Value), (∀ s ∈ l, s = .int .i64) → cellsOK (growF (fun _ _ => none) w w') l p j m → m = (List.range l.length).map fun i => .int .i64 (p.cl (j + i)).i := by
    intro l
    induction l with
    | nil => intro p j m _ h; exact h
    | cons s l ih =>
      rintro p j m hs ⟨y, m', rfl, h1, h2⟩
      rw [ih p (j + 1) m' (fun s h => hs s (by simp [h])) h2, List.length_cons, List.range_succ_eq_map, List.map_cons, List.map_map]
      rw [hs s (by simp)] at h1
      simp only [Sh.rp] at h1
      rw [h1]
      congr 1
      refine List.map_congr_left fun i _ => ?_
      show Value.int .i64 (p.cl (j + 1 + i)).i = .int .i64 (p.cl (j + Nat.succ i)).i
      rw [show j + 1 + i = j + Nat.succ i by omega]
  have h2 := this i15 usualP 0 a.toList (fun s hs => by simp [i15] at hs; exact hs) h
  rw [← Array.toArray_toList (xs := a), h2]
  rfl
/-- The maker as it is made. -/
abbrev mrow : Array Value := #[.int .i64 8, .int .i64 16, .int .i64 1, .int .i64 10, .int .i64 100, .int .i64 5, .int .i64 20, .int .i64 1, .int .i64 1, .int .i64 1000, .int .i64 4, .int .i64 8, .int .i64 4, .int .i64 10, .int .i64 100, .slice none 0 0]
noncomputable def mkCs : List (Nat × AV) := [(0, .sx (.int .i64) (.var 1)), (1, .sx (.int .i64) (.var 2)), (2, .sx (.int .i64) (.var 3)), (3, .sx (.int .i64) (.var 4)), (4, .sx (.int .i64) (.var 5)), (5, .sx (.int .i64) (.var 6)), (6, .sx (.int .i64) (.var 7)), (7, .sx (.int .i64) (.var 8)), (8, .sx (.int .i64) (.var 9)), (9, .sx (.int .i64) (.var 10)), (10, .sx (.int .i64) (.var 11)), (11, .sx (.int .i64) (.var 12)), (12, .sx (.int .i64) (.var 13)), (13, .sx (.int .i64) (.var 14)), (14, .sx (.int .i64) (.var 15)), (15, .ol 1 [.str] (.var 16))]
theorem mk_get0 : mlE.hp.get 0 = some (.row 44 1 16 (putL mkCs) false) := by kernel_rfl
theorem mk_mt0 : mt mlE.hp 0 = .row 44 1 16 false := by unfold mt; rw [mk_get0]; rfl
theorem mk_mt1 : mt mlE.hp 1 = .tok 9 [.str] (.var 16) := by kernel_rfl
theorem mk_cl {i : Nat} {x : AV} (h : cl mlE.hp 0 i = some x) : (i, x) ∈ mkCs := by
  unfold cl at h
  rw [mk_get0] at h
  exact putL_some h
def mkEnv (c : Nat → PV) (L : List ByteArray) : Env := fun i => if i = 16 then .lst (L.map PV.str) else c (i - 1)
theorem mk_start {S : Sy} {G : Nat → Option Obj} {B bm bx : Nat} {W : World} (hB : B ≤ bm) (hm : W.heap[bm]? = some (.cells mrow 44 (0, 0))) (hi : S.inv B W) (hG : ∀ b o, G b = some o → W.heap[b]? = some o ∧ b ≠ bm) (hx : bx ≠ bm) : MkRep S G B bm bx usC [] W := by
  let ρ : Pm := ⟨fun n => if n = 0 then some (bm, 0, 1) else none, fun _ _ => none⟩
  have hlt : bm < W.heap.size := (Array.getElem?_eq_some_iff.1 hm).1
  have only : ∀ n p, ρ n = some p → n = 0 ∧ p = (bm, 0, 1) := fun n p hp => by
    have hp : (if n = 0 then some (bm, 0, 1) else none) = some p := hp
    by_cases h : n = 0
    · rw [if_pos h] at hp
      injection hp with hp
      exact ⟨h, hp.symm⟩
    · rw [if_neg h] at hp; cases hp
  letI S1 : Sy := (S.wg G).at (mkEnv usC [])
  refine ⟨ρ, mkEnv usC [], @Rep.mk S1 B ρ mlE.hp W (by omega) (fun n hn => ?_) (fun n hn => ?_) (fun n m b f c f' c' h1 h2 p1 p2 => ?_) hi (fun b i v h => (by cases h)) (fun n b f c h1 hp i => rfl) (fun n el sh e h1 => ?_) (fun b i v _ h => (by cases h)) (fun b o hb => ⟨(hG b o hb).1, fun n f c h1 hp => ?_⟩), ⟨1, rfl⟩, fun j hj => ?_, rfl, fun n f c h1 hp => ?_⟩
  · have hn0 : n = 0 := by
      rcases mk_mt (Mta.live_held hn) with h | h
      · exact h
      · rw [h, mk_mt1] at hn; cases hn
    subst hn0
    refine ⟨bm, 0, 1, _, rfl, hB, hm, ?_⟩
    rw [mk_mt0]
    refine ⟨mrow, (0, 0), rfl, .inl rfl, fun i x hx => ?_, fun h => by cases h⟩
    have hx := mk_cl hx
    unfold mkCs at hx
    simp only [List.mem_cons, Prod.mk.injEq, List.not_mem_nil, or_false] at hx
    rcases hx with ⟨rfl, rfl⟩ | ⟨rfl, rfl⟩ | ⟨rfl, rfl⟩ | ⟨rfl, rfl⟩ | ⟨rfl, rfl⟩ | ⟨rfl, rfl⟩ | ⟨rfl, rfl⟩ | ⟨rfl, rfl⟩ | ⟨rfl, rfl⟩ | ⟨rfl, rfl⟩ | ⟨rfl, rfl⟩ | ⟨rfl, rfl⟩ | ⟨rfl, rfl⟩ | ⟨rfl, rfl⟩ | ⟨rfl, rfl⟩ | ⟨rfl, rfl⟩
    iterate 15 exact ⟨_, rfl, by simp only [AV.rp, Sh.rp]; rfl⟩
    refine ⟨_, rfl, ?_⟩
    simp only [AV.rp, Sh.rp]
    exact ⟨⟨none, 0, rfl, Nat.le_refl _, .inl rfl⟩, .inl ⟨rfl, rfl⟩⟩
  · by_cases h0 : n = 0
    · subst h0; rw [mk_mt0] at hn; cases hn
    · exact if_neg h0
  · rw [(only n _ p1).1, (only m _ p2).1]
  · by_cases h0 : n = 0
    · subst h0; rw [mk_mt0] at h1; cases h1
    · have hn1 : n = 1 := by
        rcases mk_mt (n := n) (by rw [h1]; rfl) with h | h
        · exact absurd h h0
        · exact h
      subst hn1
      rw [mk_mt1] at h1
      injection h1 with _ _ h3
      subst h3
      exact .inl ⟨rfl, rfl⟩
  · exact (hG b o hb).2 (by have := (only n _ hp).2; injection this)
  · show (if j + 1 = 16 then _ else usC (j + 1 - 1)) = _
    rw [if_neg (by omega), Nat.add_sub_cancel]
  · exact hx (by have := (only n _ hp).2; injection this)
/-- The maker's cells. -/
theorem mk_cells {S : Sy} {G : Nat → Option Obj} {B bm bx : Nat} {c : Nat → PV} {L : List ByteArray} {W : World} (hI : MkRep S G B bm bx c L W) : ∀ j, j < 15 → W.cell? ⟨bm, j, none⟩ = some (.int .i64 (c j).i) := by
  obtain ⟨ρ, env, hrep, ⟨cc, h0⟩, hc, _⟩ := hI
  intro j hj
  have key : ∀ j, j < 15 → cl mlE.hp 0 j = some (.sx (.int .i64) (.var (j + 1))) := all15 (by kernel_rfl) (by kernel_rfl) (by kernel_rfl) (by kernel_rfl) (by kernel_rfl) (by kernel_rfl) (by kernel_rfl) (by kernel_rfl) (by kernel_rfl) (by kernel_rfl) (by kernel_rfl) (by kernel_rfl) (by kernel_rfl) (by kernel_rfl) (by kernel_rfl)
  obtain ⟨b, f, c2, v, arr, el, fz, g1, g2, g3, g4, g5, g6, g7⟩ := @Rep.cell ((S.wg G).at env) noDc (@noDc_ok ((S.wg G).at env)) B ρ mlE.hp W hrep 0 j _ (key j hj)
  rw [h0] at g1
  injection g1 with g1
  injection g1 with g1 g8
  injection g8 with g8 _
  subst g1 g8
  rw [Nat.zero_add] at g5
  rw [g5]
  simp only [AV.rp, Sh.rp] at g6
  have g6 : v = .int .i64 (env (j + 1)).i := g6
  rw [g6, hc j hj]
/-- Nothing frozen needs to be told of a block that nobody names. -/
theorem mk_fz {S1 : Sy} {B : Nat} {ρ : Pm} {W : World} {bx : Nat} (hr : @Rep S1 B ρ mlE.hp W) (hu : unheld mlE.hp ρ bx) : @Rep S1 B ⟨ρ.nm, fun b i => if b = bx then none else ρ.fz b i⟩ mlE.hp W := by
  have sub : ∀ b i v, (if b = bx then none else ρ.fz b i) = some v → b ≠ bx ∧ ρ.fz b i = some v := fun b i v h => by
    by_cases hb : b = bx
    · rw [if_pos hb] at h; cases h
    · rw [if_neg hb] at h; exact ⟨hb, h⟩
  refine @Rep.mk S1 B _ mlE.hp W hr.size (fun n hn => ?_) hr.free hr.apart hr.inv (fun b i v h => hr.frz b i v (sub b i v h).2) (fun n b f c h1 hp i => ?_) (fun n el sh e h1 => ?_) (fun b i v hb h => hr.low b i v hb (sub b i v h).2) hr.gho
  · obtain ⟨b, f, c, o, h1, h2, h3, h4⟩ := hr.live n hn
    refine ⟨b, f, c, o, h1, h2, h3, ?_⟩
    have hn0 : n = 0 := by
      rcases mk_mt (Mta.live_held hn) with h | h
      · exact h
      · rw [h, mk_mt1] at hn; cases hn
    subst hn0
    rw [mk_mt0] at h4 ⊢
    obtain ⟨arr, fz, k1, k2, k3, k4⟩ := h4
    refine ⟨arr, fz, k1, k2, fun i x hx => ?_, k4⟩
    obtain ⟨v, k5, k6⟩ := k3 i x hx
    refine ⟨v, k5, ?_⟩
    have hx := mk_cl hx
    unfold mkCs at hx
    simp only [List.mem_cons, Prod.mk.injEq, List.not_mem_nil, or_false] at hx
    rcases hx with ⟨_, rfl⟩ | ⟨_, rfl⟩ | ⟨_, rfl⟩ | ⟨_, rfl⟩ | ⟨_, rfl⟩ | ⟨_, rfl⟩ | ⟨_, rfl⟩ | ⟨_, rfl⟩ | ⟨_, rfl⟩ | ⟨_, rfl⟩ | ⟨_, rfl⟩ | ⟨_, rfl⟩ | ⟨_, rfl⟩ | ⟨_, rfl⟩ | ⟨_, rfl⟩ | ⟨_, rfl⟩
    iterate 15 (simp only [AV.rp, Sh.rp] at k6 ⊢; exact k6)
    simp only [AV.rp] at k6 ⊢
    obtain ⟨k7, k8⟩ := k6
    refine ⟨?_, k8⟩
    rcases k8 with ⟨k8, k9⟩ | ⟨b2, c2, k8, k9⟩
    · simp only [Sh.rp]
      exact ⟨none, 0, by rw [k9, k8]; rfl, by rw [k8]; exact Nat.le_refl _, .inl k8⟩
    · have hne : b2 ≠ bx := fun e => hu 1 0 c2 (by rw [mk_mt1]; rfl) (e ▸ k8)
      simp only [Sh.rp] at k7 ⊢
      obtain ⟨a, cp, q1, q2, q3⟩ := k7
      refine ⟨a, cp, q1, q2, ?_⟩
      rcases q3 with q3 | ⟨b3, o3, q3, q4⟩
      · exact .inl q3
      · refine .inr ⟨b3, o3, q3, fun i x hx => ?_⟩
        have hb3 : b3 = b2 := by
          rw [q3, k9] at q1
          injection q1 with q1 _ _
          injection q1 with q1
          injection q1 with q1 _
          exact q1.symm
        have q5 := q4 i x hx
        simp only [Sh.rps, Sh.rp] at q5 ⊢
        obtain ⟨⟨u, q6, q7⟩, _⟩ := q5
        refine ⟨⟨u, ?_, q7⟩, trivial⟩
        rw [if_neg (by rw [hb3]; exact hne)]
        exact q6
  · show (if b = bx then none else ρ.fz b i) = none
    by_cases hb : b = bx
    · rw [if_pos hb]
    · rw [if_neg hb]; exact hr.sep n b f c h1 hp i
  · rcases hr.tok n el sh e h1 with h2 | ⟨b, c, arr, fz, h2, h3, h4, h5, h6, h7, h8, h9⟩
    · exact .inl h2
    · refine .inr ⟨b, c, arr, fz, h2, h3, h4, h5, h6, h7, h8, fun i hi => ?_⟩
      show (if b = bx then none else ρ.fz b i) = none
      split
      · rfl
      · exact h9 i hi
/-- It goes on where another block is turned. -/
theorem mk_moved {S : Sy} {G : Nat → Option Obj} {B bm bx k0 : Nat} {c : Nat → PV} {L : List ByteArray} {W W' : World} (hI : MkRep S G B bm bx c L W) (hB : B ≤ k0) (hg : G k0 = none) (hk : k0 = bx ∨ ∃ o, W.heap[k0]? = some o ∧ o.isCells = false) (hm : Moved k0 W W') : MkRep S G B bm bx c L W' := by
  obtain ⟨ρ, env, hrep, h0, hc, hl, hun⟩ := hI
  let S1 : Sy := (S.wg G).at env
  have hu0 : unheld mlE.hp ρ k0 := by
    rcases hk with rfl | ⟨o, h1, h2⟩
    · exact hun
    · exact unheld_other hrep h1 h2
  have hr := mk_fz hrep hu0
  let ρ1 : Pm := ⟨ρ.nm, fun b i => if b = k0 then none else ρ.fz b i⟩
  have same : ∀ b o, W.heap[b]? = some o → b ≠ k0 → W'.heap[b]? = some o := fun b o h hne => (hm.block b (Array.getElem?_eq_some_iff.1 h).1 hne).trans h
  have hne : ∀ n b f c2, (mt mlE.hp n).held = true → ρ n = some (b, f, c2) → b ≠ k0 := fun n b f c2 hl2 hp e => hu0 n f c2 hl2 (e ▸ hp)
  have bel : Below B W W' := ⟨hm.os, hm.tape, hm.output, hm.size, fun k hk2 => hm.block k (Nat.lt_of_lt_of_le hk2 (@Rep.size S1 _ _ _ _ hrep)) (by omega)⟩
  refine ⟨ρ1, env, @Rep.mk S1 B ρ1 mlE.hp W' (Nat.le_trans (@Rep.size S1 _ _ _ _ hrep) hm.size) (fun n hn => ?_) (@Rep.free S1 _ _ _ _ hr) (@Rep.apart S1 _ _ _ _ hr) (S.keep (@Rep.inv S1 _ _ _ _ hr) bel) (fun b i v h => ?_) (@Rep.sep S1 _ _ _ _ hr) (fun n el sh e h1 => ?_) (@Rep.low S1 _ _ _ _ hr) (fun b o hb => ⟨same b o (@Rep.gho S1 _ _ _ _ hr b o hb).1 (fun e => by
    have hb : G b = some o := hb
    rw [e, hg] at hb; cases hb), (@Rep.gho S1 _ _ _ _ hr b o hb).2⟩), h0, hc, hl, hun⟩
  · obtain ⟨b, f, c2, o, h1, h2, h3, h4⟩ := @Rep.live S1 _ _ _ _ hr n hn
    exact ⟨b, f, c2, o, h1, h2, same b o h3 (hne n b f c2 (Mta.live_held hn) h1), h4⟩
  · have h' : (if b = k0 then none else ρ.fz b i) = some v := h
    by_cases hb : b = k0
    · rw [if_pos hb] at h'; cases h'
    · have := @Rep.frz S1 _ _ _ _ hr b i v h
      have hlt : b < W.heap.size := World.block_lt_of_cell? _ _ this
      exact (cell_eq (a := ⟨b, i, none⟩) (hm.block b hlt hb)).trans this
  · rcases @Rep.tok S1 _ _ _ _ hr n el sh e h1 with h2 | ⟨b, c2, arr, fz, h2, h3, h4, h5⟩
    · exact .inl h2
    · exact .inr ⟨b, c2, arr, fz, h2, h3, same b _ h4 (hne n b 0 c2 (by rw [h1]; rfl) h2), h5⟩
theorem lineF_len (c : Nat → PV) (L : List ByteArray) (s : ByteArray) : (lineF c L s).2.2.length ≤ L.length + 1 := by
  unfold lineF
  split
  · exact Nat.le_succ _
  · split
    · exact Nat.le_succ _
    · split
      · exact Nat.le_succ _
      · split
        · exact Nat.le_succ _
        · split
          · show (L ++ [_]).length ≤ _
            rw [List.length_append]
            exact Nat.le_refl _
          · exact Nat.le_succ _
    · exact Nat.le_succ _
theorem goF_snoc : ∀ (pre : List (Nat × ByteArray)) (x : Nat × ByteArray) (c0 : Nat → PV) (L0 : List ByteArray) (c : Nat → PV) (L : List ByteArray), goF pre c0 L0 = .inr (c, L) → goF (pre ++ [x]) c0 L0 = if (lineF c L x.2).1 = 0 then .inr ((lineF c L x.2).2.1, (lineF c L x.2).2.2) else .inl (x.1, (lineF c L x.2).1)
  | [], x, c0, L0, c, L, h => by
    have h : (Sum.inr (c0, L0) : Sum (Nat × Int) ((Nat → PV) × List ByteArray)) = .inr (c, L) := h
    injection h with h
    injection h with h1 h2
    subst h1 h2
    rfl
  | y :: pre, x, c0, L0, c, L, h => by
    have h : (if (lineF c0 L0 y.2).1 = 0 then goF pre (lineF c0 L0 y.2).2.1 (lineF c0 L0 y.2).2.2 else .inl (y.1, (lineF c0 L0 y.2).1)) = .inr (c, L) := h
    show (if (lineF c0 L0 y.2).1 = 0 then goF (pre ++ [x]) (lineF c0 L0 y.2).2.1 (lineF c0 L0 y.2).2.2 else .inl (y.1, (lineF c0 L0 y.2).1)) = _
    by_cases h0 : (lineF c0 L0 y.2).1 = 0
    · rw [if_pos h0] at h ⊢
      exact goF_snoc pre x _ _ c L h
    · rw [if_neg h0] at h; cases h
theorem goF_stop : ∀ (pre post : List (Nat × ByteArray)) (c0 : Nat → PV) (L0 : List ByteArray) (n : Nat) (e : Int), goF pre c0 L0 = .inl (n, e) → goF (pre ++ post) c0 L0 = .inl (n, e)
  | [], post, c0, L0, n, e, h => by cases h
  | y :: pre, post, c0, L0, n, e, h => by
    have h : (if (lineF c0 L0 y.2).1 = 0 then goF pre (lineF c0 L0 y.2).2.1 (lineF c0 L0 y.2).2.2 else .inl (y.1, (lineF c0 L0 y.2).1)) = .inl (n, e) := h
    show (if (lineF c0 L0 y.2).1 = 0 then goF (pre ++ post) (lineF c0 L0 y.2).2.1 (lineF c0 L0 y.2).2.2 else .inl (y.1, (lineF c0 L0 y.2).1)) = _
    by_cases h0 : (lineF c0 L0 y.2).1 = 0
    · rw [if_pos h0] at h ⊢
      exact goF_stop pre post _ _ n e h
    · rw [if_neg h0] at h ⊢; exact h
theorem linesN_len : ∀ (f n : Nat) (t : List UInt8), (linesN f n t).length ≤ f
  | 0, n, t => Nat.le_refl _
  | f + 1, n, t => by
    show (if t = [] then ([] : List (Nat × ByteArray)) else _).length ≤ _
    split
    · exact Nat.zero_le _
    · have := linesN_len f (n + 1) (cutL 10 t).2.1
      simp only [List.length_cons]
      omega
theorem linesN_size : ∀ (f n : Nat) (t : List UInt8), ∀ x ∈ linesN f n t, x.2.size ≤ t.length
  | 0, n, t => fun x hx => by cases hx
  | f + 1, n, t => fun x hx => by
    have hx : x ∈ (if t = [] then [] else (n, strL (cutL 10 t).1) :: linesN f (n + 1) (cutL 10 t).2.1) := hx
    by_cases ht : t = []
    · rw [if_pos ht] at hx; cases hx
    · rw [if_neg ht] at hx
      rcases List.mem_cons.1 hx with rfl | hx
      · show (strL (cutL 10 t).1).size ≤ _
        rw [strL_sz]
        exact cutL_fst_len 10 t
      · have := linesN_size f (n + 1) _ x hx
        have h2 := cutL_rest 10 t ht
        omega
theorem moved_put (W : World) (l : Nat) (o : Obj) : Moved l W (W.putObj l o) := by
  have h := grownBy_putObj' W l o
  exact ⟨h.os, h.tape, h.output, h.size, fun k hk hne => h.block k hk (fun e => hne (by injection e))⟩
theorem moved_below {g0 k0 : Nat} {w W W' : World} (h : Below g0 w W) (hm : Moved k0 W W') (hk : g0 ≤ k0) (hs : g0 ≤ W.heap.size) : Below g0 w W' := h.trans ⟨hm.os, hm.tape, hm.output, hm.size, fun k hk2 => hm.block k (Nat.lt_of_lt_of_le hk2 hs) (by omega)⟩
theorem wpListIn_store_row {F : Fence} {n : Nat} {P : Program} {ops : Array Oper} {rest : List Oper} {o : Oper} {a : Act} {w : World} {Q : Exit → Act → World → Prop} (hgd : o.guard = none) (ty : TypeId) (x y : Operand) (ho : o.op = .store ty x y)
    (g : Nat) (cells : Array Value) (hx : a.eval x = .pointer (some ⟨g, 0, none⟩)) (hy : a.eval y = .agg cells)
    (t : TypeId) (old : Array Value) (hg : w.heap[g]? = some (.cells old t (0, 0))) (hi : (P.info? ty).map (·.size) = some cells.size)
    (hold : old.size = cells.size) (h1 : cells.all (·.oneCell') = true)
    (h : wpListIn F n P ops Q rest (a.put o.dst undef) (w.setRow g cells)) : wpListIn F n P ops Q (o :: rest) a w := by
  refine wpListIn_plain hgd fun K hK => ⟨fun f hf => ?_, ?_⟩
  · simp [Oper.about, ho] at hf
  · rw [Oper.semAt_eq _ _ _ (fun c h => by rw [ho] at h; cases h)]
    unfold execOp
    simp only [ho, hx, hy, Instr.storeAt, Instr.sureAddr, Sem.run_bind, Sem.run_pure, Result.andThen_ok, run_storeVar_row w g t ty old cells hg hi hold h1]
    exact hK _ _ h
theorem below_setRowP {B g : Nat} {w0 w : World} (hb : Below B w0 w) (hBg : B ≤ g) (cs : Array Value) : Below B w0 (w.setRow g cs) := hb.trans ⟨rfl, rfl, rfl, by simp, fun k hk => setRow_other w g k cs (by omega)⟩
/-- A walk halts here. -/
structure Stp (p : Prop) : Prop where
  out : p
theorem stop_store {F : Fence} {n : Nat} {P : Program} {ops : Array Oper} {rest : List Oper} {d : Option Tmp} {x y : Operand} {t2 : TypeId} {pos : String} {af : Array Edge} {a : Act} {w : World} {Q : Exit → Act → World → Prop} (ty : TypeId) (h : Stp (wpListIn F n P ops Q (⟨d, .store ty x y, t2, pos, af, none⟩ :: rest) a w)) : wpListIn F n P ops Q (⟨d, .store ty x y, t2, pos, af, none⟩ :: rest) a w := h.out
theorem cell_of1 {W : World} {b : Nat} {v : Value} {t : TypeId} (h : W.heap[b]? = some (.cells #[v] t (0, 0))) : W.cell? ⟨b, 0, none⟩ = some v := cells_arr h rfl
def cfgV (c : PV) : Array Value := #[.int .i64 (c.cl 0).i, .int .i64 (c.cl 1).i, .int .i64 (c.cl 2).i, .int .i64 (c.cl 3).i, .int .i64 (c.cl 4).i, .int .i64 (c.cl 5).i, .int .i64 (c.cl 6).i, .int .i64 (c.cl 7).i, .int .i64 (c.cl 8).i, .int .i64 (c.cl 9).i, .int .i64 (c.cl 10).i, .int .i64 (c.cl 11).i, .int .i64 (c.cl 12).i, .int .i64 (c.cl 13).i, .int .i64 (c.cl 14).i]
abbrev intRow (c : Nat → Int) : Array Value := #[.int .i64 (c 0), .int .i64 (c 1), .int .i64 (c 2), .int .i64 (c 3), .int .i64 (c 4), .int .i64 (c 5), .int .i64 (c 6), .int .i64 (c 7), .int .i64 (c 8), .int .i64 (c 9), .int .i64 (c 10), .int .i64 (c 11), .int .i64 (c 12), .int .i64 (c 13), .int .i64 (c 14)]
theorem pa_res {tmps : Array Value} {w : World} {g : Nat} {c : Nat → Int} {n e : Int} (hp : tmps.getD 2 undef = .pointer (some ⟨g, 0, none⟩)) (hq : tmps.getD 3 undef = .pointer (some ⟨g + 1, 0, none⟩)) (hr : tmps.getD 4 undef = .pointer (some ⟨g + 1 + 1, 0, none⟩))
    (h0 : w.heap[g]? = some (.cells (intRow c) 24 (0, 0))) (h1 : w.heap[g + 1]? = some (.cells #[.int .i64 n] 3 (0, 0))) (h2 : w.heap[g + 1 + 1]? = some (.cells #[.int .i64 e] 25 (0, 0))) :
    (results Tryz.f5 tmps).run Tryz.prog w = .ok (.tuple #[.agg (intRow c), .int .i64 n, .int .i64 e]) w := by
  have hp' : tmps[2]?.getD undef = .pointer (some ⟨g, 0, none⟩) := by simpa using hp
  have hq' : tmps[3]?.getD undef = .pointer (some ⟨g + 1, 0, none⟩) := by simpa using hq
  have hr' : tmps[4]?.getD undef = .pointer (some ⟨g + 1 + 1, 0, none⟩) := by simpa using hr
  have c1 := cell_of1 h1
  have c2 := cell_of1 h2
  have e0 : w.cell? ⟨g, 0, none⟩ = some (.int .i64 (c 0)) := cells_arr h0 rfl
  have e1 : w.cell? ⟨g, 1, none⟩ = some (.int .i64 (c 1)) := cells_arr h0 rfl
  have e2 : w.cell? ⟨g, 2, none⟩ = some (.int .i64 (c 2)) := cells_arr h0 rfl
  have e3 : w.cell? ⟨g, 3, none⟩ = some (.int .i64 (c 3)) := cells_arr h0 rfl
  have e4 : w.cell? ⟨g, 4, none⟩ = some (.int .i64 (c 4)) := cells_arr h0 rfl
  have e5 : w.cell? ⟨g, 5, none⟩ = some (.int .i64 (c 5)) := cells_arr h0 rfl
  have e6 : w.cell? ⟨g, 6, none⟩ = some (.int .i64 (c 6)) := cells_arr h0 rfl
  have e7 : w.cell? ⟨g, 7, none⟩ = some (.int .i64 (c 7)) := cells_arr h0 rfl
  have e8 : w.cell? ⟨g, 8, none⟩ = some (.int .i64 (c 8)) := cells_arr h0 rfl
  have e9 : w.cell? ⟨g, 9, none⟩ = some (.int .i64 (c 9)) := cells_arr h0 rfl
  have e10 : w.cell? ⟨g, 10, none⟩ = some (.int .i64 (c 10)) := cells_arr h0 rfl
  have e11 : w.cell? ⟨g, 11, none⟩ = some (.int .i64 (c 11)) := cells_arr h0 rfl
  have e12 : w.cell? ⟨g, 12, none⟩ = some (.int .i64 (c 12)) := cells_arr h0 rfl
  have e13 : w.cell? ⟨g, 13, none⟩ = some (.int .i64 (c 13)) := cells_arr h0 rfl
  have e14 : w.cell? ⟨g, 14, none⟩ = some (.int .i64 (c 14)) := cells_arr h0 rfl
  simp [results, Tryz.results5, go_sem, asAddr, hp', hq', hr', c1, c2, e0, e1, e2, e3, e4, e5, e6, e7, e8, e9, e10, e11, e12, e13, e14, Result.andThen]
theorem check_any {S : Sy} (hS : PaS S) (W : World) (hi : S.inv W.heap.size W) (c : Nat → PV) : Calls Tryz.prog 12 #[.agg (intRow fun j => (c j).i)] W fun e w' => e = .returned (.int .i64 (S.fn 12 [rowC c]).i) ∧ Below W.heap.size W w' := by
  have ha : argsOK (fun _ _ => none) [.agg i15] [rowC c] [Value.agg (intRow fun j => (c j).i)] := by
    refine ⟨_, [], _, [], rfl, rfl, ⟨_, rfl, ?_⟩, rfl, rfl⟩
    refine ⟨_, _, rfl, by simp only [Sh.rp]; rfl, ⟨_, _, rfl, by simp only [Sh.rp]; rfl, ⟨_, _, rfl, by simp only [Sh.rp]; rfl, ⟨_, _, rfl, by simp only [Sh.rp]; rfl, ⟨_, _, rfl, by simp only [Sh.rp]; rfl, ⟨_, _, rfl, by simp only [Sh.rp]; rfl, ⟨_, _, rfl, by simp only [Sh.rp]; rfl, ⟨_, _, rfl, by simp only [Sh.rp]; rfl, ⟨_, _, rfl, by simp only [Sh.rp]; rfl, ⟨_, _, rfl, by simp only [Sh.rp]; rfl, ⟨_, _, rfl, by simp only [Sh.rp]; rfl, ⟨_, _, rfl, by simp only [Sh.rp]; rfl, ⟨_, _, rfl, by simp only [Sh.rp]; rfl, ⟨_, _, rfl, by simp only [Sh.rp]; rfl, ⟨_, _, rfl, by simp only [Sh.rp]; rfl, rfl⟩⟩⟩⟩⟩⟩⟩⟩⟩⟩⟩⟩⟩⟩⟩
  refine ((check_ok hS.toCkS).2 (fun _ _ => none) W [rowC c] #[.agg (intRow fun j => (c j).i)] (fun _ _ _ h => by cases h) hi ha (fun _ h => by cases h)).mono ?_
  rintro e w' ⟨v, rfl, h, hb⟩
  refine ⟨?_, hb⟩
  have h : Sh.rp (growF (fun _ _ => none) W w') (.int .i64) (S.fn 12 [rowC c]) v := h
  simp only [Sh.rp] at h
  rw [h]
set_option maxRecDepth 100000 in
set_option maxHeartbeats 4000000 in
theorem parse_any {S : Sy} (hS : PaS S) (text : ByteArray) (hz : text.size ≤ 60000) (w : World) (hi : S.inv w.heap.size w) : Calls Tryz.prog 5 #[.string text] w fun e w' => e = .returned (.tuple #[.agg (cfgV ((parseF text).cl 0)), .int .i64 ((parseF text).cl 1).i, .int .i64 ((parseF text).cl 2).i]) ∧ Below w.heap.size w w' := by
  have B3 : Below w.heap.size w (((w.alloc (.cells zrow 24)).alloc (.cells #[.int .i64 0] 3)).alloc (.cells #[.int .i64 0] 25)) := (((Below.refl _ w).alloc (Nat.le_refl _) _).alloc (by simp) _).alloc (by simp; omega) _
  have HU := Lib.hid (usual_any hS (((w.alloc (.cells zrow 24)).alloc (.cells #[.int .i64 0] 3)).alloc (.cells #[.int .i64 0] 25)) (S.up B3.size (S.keep hi B3)))
  have z3 : (((w.alloc (.cells zrow 24)).alloc (.cells #[.int .i64 0] 3)).alloc (.cells #[.int .i64 0] 25)).heap.size = w.heap.size + 3 := by simp
  have a0 : (((w.alloc (.cells zrow 24)).alloc (.cells #[.int .i64 0] 3)).alloc (.cells #[.int .i64 0] 25)).heap[w.heap.size]? = some (.cells zrow 24 (0, 0)) :=
    (Below.heap_alloc _ _ _ (by simp; omega)).trans ((Below.heap_alloc _ _ _ (by simp)).trans (heap_alloc_new w _))
  have a1 : (((w.alloc (.cells zrow 24)).alloc (.cells #[.int .i64 0] 3)).alloc (.cells #[.int .i64 0] 25)).heap[w.heap.size + 1]? = some (.cells #[.int .i64 0] 3 (0, 0)) := by
    refine (Below.heap_alloc _ _ _ (by simp)).trans ?_
    have := heap_alloc_new (w.alloc (.cells zrow 24)) (.cells #[.int .i64 0] 3)
    rwa [World.size_alloc] at this
  have a2 : (((w.alloc (.cells zrow 24)).alloc (.cells #[.int .i64 0] 3)).alloc (.cells #[.int .i64 0] 25)).heap[w.heap.size + 2]? = some (.cells #[.int .i64 0] 25 (0, 0)) := by
    have := heap_alloc_new ((w.alloc (.cells zrow 24)).alloc (.cells #[.int .i64 0] 3)) (.cells #[.int .i64 0] 25)
    rwa [World.size_alloc, World.size_alloc] at this
  have A0 := Lib.hid a0
  have A1 := Lib.hid a1
  have A2 := Lib.hid a2
  have HB3 := Lib.hid B3
  have HZ3 := Lib.hid z3
  clear a0 a1 a2 B3 z3
  refine (callsIn_wide (n := 3)).1 ?_
  refine callsIn_of_wp_marks Tryz.func5 rfl trivial ?_ rfl
  simp only [Tryz.ntmps5, List.size_toArray, List.length_cons, List.length_nil, Nat.reduceAdd, Nat.reduceSub, Array.replicate_succ, Array.replicate_zero, List.push_toArray, List.append_toArray, List.nil_append, List.cons_append]
  gi_wp2_with (first
    | (refine ⟨trivial, ?_⟩; gi_at_call 13; refine (callsIn_wide.2 HU.out).mono ?_; rintro e w1 ⟨rfl, hb1⟩; have HB1 := Lib.hid hb1; clear hb1)
    | (refine ⟨trivial, ?_⟩; gi_at_call 14; refine (callsIn_wide.2 (lines_any text _)).mono ?_; rintro e w3 ⟨rfl, rfl⟩))
  clear HU
  generalize (((w.alloc (.cells zrow 24)).alloc (.cells #[.int .i64 0] 3)).alloc (.cells #[.int .i64 0] 25)) = w3 at A0 A1 A2 HB3 HZ3 HB1
  have z1 : w3.heap.size ≤ w1.heap.size := HB1.out.size
  have hz3 := HZ3.out
  have A0 := Lib.hid ((HB1.out.block _ (by omega)).trans A0.out)
  have A1 := Lib.hid ((HB1.out.block _ (by omega)).trans A1.out)
  have A2 := Lib.hid ((HB1.out.block _ (by omega)).trans A2.out)
  have HBW := Lib.hid (HB3.out.trans (HB1.out.mono HB3.out.size))
  clear HB1 HB3
  have am := heap_alloc_new w1 (.cells mrow 44)
  have a5 := heap_alloc_new (w1.alloc (.cells mrow 44)) (.cells #[.pointer (some ⟨w1.heap.size, 0, none⟩)] 42)
  have ax := heap_alloc_new ((w1.alloc (.cells mrow 44)).alloc (.cells #[.pointer (some ⟨w1.heap.size, 0, none⟩)] 42)) (.cells #[.string text] 9)
  rw [World.size_alloc] at a5
  rw [World.size_alloc, World.size_alloc] at ax
  have BW : Below w1.heap.size w1 (((w1.alloc (.cells mrow 44)).alloc (.cells #[.pointer (some ⟨w1.heap.size, 0, none⟩)] 42)).alloc (.cells #[.string text] 9)) := (((Below.refl _ w1).alloc (Nat.le_refl _) _).alloc (by simp) _).alloc (by simp; omega) _
  have am5 := (Below.heap_alloc ((w1.alloc (.cells mrow 44)).alloc (.cells #[.pointer (some ⟨w1.heap.size, 0, none⟩)] 42)) (.cells #[.string text] 9) w1.heap.size (by simp; omega)).trans ((Below.heap_alloc (w1.alloc (.cells mrow 44)) (.cells #[.pointer (some ⟨w1.heap.size, 0, none⟩)] 42) w1.heap.size (by simp)).trans am)
  have a55 := (Below.heap_alloc ((w1.alloc (.cells mrow 44)).alloc (.cells #[.pointer (some ⟨w1.heap.size, 0, none⟩)] 42)) (.cells #[.string text] 9) (w1.heap.size + 1) (by simp)).trans a5
  have AM := Lib.hid am5
  have A5 := Lib.hid a55
  have AX := Lib.hid ax
  have ZW := Lib.hid (show (((w1.alloc (.cells mrow 44)).alloc (.cells #[.pointer (some ⟨w1.heap.size, 0, none⟩)] 42)).alloc (.cells #[.string text] 9)).heap.size = w1.heap.size + 3 by simp)
  have A0 := Lib.hid ((BW.block w.heap.size (by omega)).trans A0.out)
  have A1 := Lib.hid ((BW.block (w.heap.size + 1) (by omega)).trans A1.out)
  have A2 := Lib.hid ((BW.block (w.heap.size + 2) (by omega)).trans A2.out)
  have HBW := Lib.hid (HBW.out.trans (BW.mono (by omega)))
  clear am a5 ax am5 a55 BW
  generalize (((w1.alloc (.cells mrow 44)).alloc (.cells #[.pointer (some ⟨w1.heap.size, 0, none⟩)] 42)).alloc (.cells #[.string text] 9)) = W5 at A0 A1 A2 AM A5 AX ZW HBW ⊢
  generalize hg1 : w1.heap.size = g1 at A0 A1 A2 AM A5 AX ZW HBW z1 ⊢
  have hg : w.heap.size + 3 ≤ g1 := by omega
  clear HZ3 hz3 hg1 z1
  have hinv : S.inv w.heap.size W5 := S.keep hi HBW.out
  obtain ⟨hmxlt, hmx⟩ := (hS.inv _ _ hinv).2
  let G : Nat → Option Obj := fun j => if j = w.heap.size then some (.cells zrow 24 (0, 0)) else if j = w.heap.size + 1 then some (.cells #[.int .i64 0] 3 (0, 0)) else if j = w.heap.size + 2 then some (.cells #[.int .i64 0] 25 (0, 0)) else if j = g1 + 1 then some (.cells #[.pointer (some ⟨g1, 0, none⟩)] 42 (0, 0)) else none
  have hG : ∀ b o, G b = some o → (b = w.heap.size ∧ o = .cells zrow 24 (0, 0)) ∨ (b = w.heap.size + 1 ∧ o = .cells #[.int .i64 0] 3 (0, 0)) ∨ (b = w.heap.size + 2 ∧ o = .cells #[.int .i64 0] 25 (0, 0)) ∨ (b = g1 + 1 ∧ o = .cells #[.pointer (some ⟨g1, 0, none⟩)] 42 (0, 0)) := fun b o h => by
    have h : (if b = w.heap.size then some _ else if b = w.heap.size + 1 then some _ else if b = w.heap.size + 2 then some _ else if b = g1 + 1 then some _ else none) = some o := h
    split at h
    · rename_i hb; injection h with h; exact .inl ⟨hb, h.symm⟩
    · split at h
      · rename_i hb; injection h with h; exact .inr (.inl ⟨hb, h.symm⟩)
      · split at h
        · rename_i hb; injection h with h; exact .inr (.inr (.inl ⟨hb, h.symm⟩))
        · split at h
          · rename_i hb; injection h with h; exact .inr (.inr (.inr ⟨hb, h.symm⟩))
          · cases h
  have hG0 : G w.heap.size = some (.cells zrow 24 (0, 0)) := if_pos rfl
  have hG1 : G (w.heap.size + 1) = some (.cells #[.int .i64 0] 3 (0, 0)) := by
    show (if _ then _ else _) = _
    rw [if_neg (by omega), if_pos rfl]
  have hG2 : G (w.heap.size + 2) = some (.cells #[.int .i64 0] 25 (0, 0)) := by
    show (if _ then _ else _) = _
    rw [if_neg (by omega), if_neg (by omega), if_pos rfl]
  have hG5 : G (g1 + 1) = some (.cells #[.pointer (some ⟨g1, 0, none⟩)] 42 (0, 0)) := by
    show (if _ then _ else _) = _
    rw [if_neg (by omega), if_neg (by omega), if_neg (by omega), if_pos rfl]
  have hGn : ∀ k, g1 + 2 ≤ k → G k = none := fun k hk => by
    show (if _ then _ else _) = _
    rw [if_neg (by omega), if_neg (by omega), if_neg (by omega), if_neg (by omega)]
  have hst : MkRep S G w.heap.size g1 (g1 + 2) usC [] W5 := mk_start (by omega) AM.out hinv (fun b o hb => by
    rcases hG b o hb with ⟨rfl, rfl⟩ | ⟨rfl, rfl⟩ | ⟨rfl, rfl⟩ | ⟨rfl, rfl⟩
    · exact ⟨A0.out, by omega⟩
    · exact ⟨A1.out, by omega⟩
    · exact ⟨A2.out, by omega⟩
    · exact ⟨A5.out, by omega⟩) (by omega)
  have HST := Lib.hid hst
  have HGS := Lib.hid (show (∀ W c L, MkRep S G w.heap.size g1 (g1 + 2) c L W → ∀ b o, G b = some o → W.heap[b]? = some o) from fun W c L ⟨ρ, env, hr, _⟩ b o hb => (@Rep.gho ((S.wg G).at env) _ _ _ _ hr b o hb).1)
  have HGN := Lib.hid hGn
  have HG0 := Lib.hid hG0
  have HG1 := Lib.hid hG1
  have HG2 := Lib.hid hG2
  have HG5 := Lib.hid hG5
  clear hG hst hGn hG0 hG1 hG2 hG5
  clear_value G
  refine range_st (n := 3) (by omega) (gf := 29) (lb := #[.pointer (some ⟨g1 + 2, 0, none⟩)]) rfl (enters_of Tryz.func29 (by kernel_rfl) rfl)
    (lines_seq (3 - 1) (by omega) text hz (g1 + 2) W5 (by have := ZW.out; omega) (by omega) hmx AX.out) KpL.trans (fun W l o o' hle hl hc => ⟨fun v hv => ?kb1, fun v hv => ?kb2⟩) (Below.refl _ _) (fun _ => rfl) (by have := ZW.out; omega)
    (fun pre W => ∃ c L, goF pre usC [] = .inr (c, L) ∧ L.length ≤ pre.length ∧ MkRep S G w.heap.size g1 (g1 + 2) c L W ∧ Below w.heap.size w W ∧ g1 + 3 ≤ W.heap.size)
    (fun pre W => (∃ post, linesF text = pre ++ post) ∧ ∃ (n : Nat) (e : Int), goF pre usC [] = .inl (n, e) ∧ W.heap[w.heap.size]? = some (.cells zrow 24 (0, 0)) ∧ W.heap[w.heap.size + 1]? = some (.cells #[.int .i64 n] 3 (0, 0)) ∧ W.heap[w.heap.size + 2]? = some (.cells #[.int .i64 e] 25 (0, 0)) ∧ Below w.heap.size w W)
    ?ib ?ixb ?im ?ixm ⟨usC, [], rfl, Nat.zero_le _, HST.out, HBW.out, by have := ZW.out; omega⟩
    (fun x => { tmps := #[.string text, undef, .pointer (some ⟨w.heap.size, 0, none⟩), .pointer (some ⟨w.heap.size + 1, 0, none⟩), .pointer (some ⟨w.heap.size + 1 + 1, 0, none⟩), .pointer (some ⟨g1 + 1, 0, none⟩), .int .i64 (x.1 : Int), .string x.2, undef, undef, .agg urow, .agg mrow, .pointer (some ⟨g1, 0, none⟩), .string text, .func (.func 29) #[] #[.pointer (some ⟨g1 + 2, 0, none⟩)], .int .i64 (x.1 : Int), .string x.2, undef, undef, undef, undef, undef, undef, undef, undef, undef, undef, undef, undef, undef, undef, undef, undef, undef, undef, undef, undef, undef], defers := [] }) ?assign ?body ?done ?stop
  case kb1 => exact (World.putObj_heap_other (by have := ZW.out; omega)).trans hv
  case kb2 => exact (cell_eq (a := ⟨0, 0, none⟩) (World.putObj_heap_other (by have := ZW.out; dsimp only; omega))).trans hv
  case ib =>
    rintro s W l o o' ⟨c, L, h1, h2, h3, h4, h5⟩ hle hl hc
    have hlg : g1 + 2 ≤ l := by have := ZW.out; omega
    have hm := moved_put W l o'
    exact ⟨c, L, h1, h2, mk_moved h3 (by omega) (HGN.out _ hlg) (.inr ⟨o, hl, hc⟩) hm, moved_below h4 hm (by omega) (by omega), Nat.le_trans h5 hm.size⟩
  case ixb =>
    rintro s W l o o' ⟨h0, n, e, h1, h2, h3, h4, h5⟩ hle hl hc
    have hlg : g1 + 2 ≤ l := by have := ZW.out; omega
    have hm := moved_put W l o'
    have k0 := (Array.getElem?_eq_some_iff.1 h4).1
    exact ⟨h0, n, e, h1, (hm.block w.heap.size (by omega) (by omega)).trans h2, (hm.block (w.heap.size + 1) (by omega) (by omega)).trans h3, (hm.block (w.heap.size + 2) (by omega) (by omega)).trans h4, moved_below h5 hm (by omega) (by omega)⟩
  case im =>
    rintro s A B ⟨c, L, h1, h2, h3, h4, h5⟩ hm
    exact ⟨c, L, h1, h2, mk_moved h3 (by omega) (HGN.out _ (Nat.le_refl _)) (.inl rfl) hm, moved_below h4 hm (by omega) (by omega), Nat.le_trans h5 hm.size⟩
  case ixm =>
    rintro s A B ⟨h0, n, e, h1, h2, h3, h4, h5⟩ hm
    have k0 := (Array.getElem?_eq_some_iff.1 h4).1
    exact ⟨h0, n, e, h1, (hm.block w.heap.size (by omega) (by omega)).trans h2, (hm.block (w.heap.size + 1) (by omega) (by omega)).trans h3, (hm.block (w.heap.size + 2) (by omega) (by omega)).trans h4, moved_below h5 hm (by omega) (by omega)⟩
  case assign =>
    intro l x W K hK
    gi_wp2
    exact hK
  case body =>
    rintro l pre x W ⟨post, hx⟩ ⟨c, L, h1, h2, h3, h4, h5⟩
    have hxs : x.2.size ≤ 60000 := by
      have := linesN_size text.size 1 (LL text) x (by show x ∈ linesF text; rw [hx]; simp)
      rw [LL_len] at this
      omega
    have hpl : pre.length ≤ 60000 := by
      have := linesN_len text.size 1 (LL text)
      have h9 : (linesF text).length ≤ text.size := this
      rw [hx] at h9
      simp at h9
      omega
    have C := Lib.hid (line_call hS.toMlS h3 (by omega) (by omega) x.2 hxs (by omega))
    have HE := Lib.hid (goF_snoc pre x usC [] c L h1)
    have HLL := Lib.hid (lineF_len c L x.2)
    have HL2 := Lib.hid h2
    have HB4 := Lib.hid h4
    have HSZ := Lib.hid h5
    have c5 := cell_of1 (HGS.out W c L h3 (g1 + 1) _ HG5.out)
    generalize (lineF c L x.2).1 = k at C HE
    generalize (lineF c L x.2).2.1 = c' at C HE
    generalize (lineF c L x.2).2.2 = L' at C HE HLL
    clear h1 h2 h3 h4 h5 hpl hxs
    by_cases hk : k = 0
    · subst hk
      gi_wp2_with (first
        | (refine ⟨trivial, ?_⟩; gi_at_call 15; refine (callsIn_wide.2 C.out).mono ?_; rintro e W' ⟨rfl, hM, hKO, hbx, hmx2, hbel⟩))
      refine ⟨hKO, ⟨fun v hv => hbx.trans hv, fun v hv => (cell_eq (a := ⟨0, 0, none⟩) hmx2).trans hv⟩, c', L', ?_, ?_, hM, HB4.out.trans hbel, Nat.le_trans HSZ.out hbel.size⟩
      · rw [HE.out]; simp
      · have := HLL.out
        have := HL2.out
        rw [List.length_append]
        simp only [List.length_singleton]
        omega
    · gi_wp2_with (first
        | (refine ⟨trivial, ?_⟩; gi_at_call 15; refine (callsIn_wide.2 C.out).mono ?_; rintro e W' ⟨rfl, hM, hKO, hbx, hmx2, hbel⟩; have HM := Lib.hid hM; have HKO := Lib.hid hKO; have HBEL := Lib.hid hbel; have R0 := Lib.hid (HGS.out W' c' L' hM _ _ HG0.out); have R1 := Lib.hid (HGS.out W' c' L' hM _ _ HG1.out); have R2 := Lib.hid (HGS.out W' c' L' hM _ _ HG2.out); have r1 := cell_of1 R1.out; have r2 := cell_of1 R2.out; have f1 : W'.frozen? ⟨w.heap.size + 1, 0, none⟩ = false := frozen_of_row _ _ _ _ _ R1.out; have f2 : W'.frozen? ⟨w.heap.size + 2, 0, none⟩ = false := frozen_of_row _ _ _ _ _ R2.out; clear hM hKO hbx hmx2 hbel)
        | (refine stop_store 24 ?_))
      refine ⟨?_⟩
      refine wpListIn_store_row rfl 24 (.tmp 2) (.tmp 22) rfl w.heap.size zrow rfl rfl 24 zrow R0.out (by kernel_rfl) rfl (by simp [Value.oneCell']) ?_
      rw [setRow_self _ w.heap.size zrow _ _ R0.out]
      gi_wp2
      have s1 := heap_setCell_same W' (w.heap.size + 1) 0 #[.int .i64 0] 3 (.int .i64 (x.1 : Int)) R1.out
      have s2 : (W'.setCell ⟨w.heap.size + 1, 0, none⟩ (.int .i64 (x.1 : Int))).heap[w.heap.size + 2]? = some (.cells #[.int .i64 0] 25 (0, 0)) := (heap_setCell_other _ _ _ _ (by dsimp only; omega)).trans R2.out
      have s3 := heap_setCell_same _ (w.heap.size + 2) 0 #[.int .i64 0] 25 (.int .i64 k) s2
      refine ⟨HKO.out.trans ((KeepsOthers.setCell _ _ _).trans (KeepsOthers.setCell _ _ _)), ⟨post, by rw [hx]; simp⟩, x.1, k, ?_, ?_, ?_, ?_, ?_⟩
      · rw [HE.out, if_neg hk]
      · exact (heap_setCell_other _ _ _ _ (by dsimp only; omega)).trans ((heap_setCell_other _ _ _ _ (by dsimp only; omega)).trans R0.out)
      · exact (heap_setCell_other _ _ _ _ (by dsimp only; omega)).trans s1
      · exact s3
      · exact ((HB4.out.trans HBEL.out).setCell (p := ⟨w.heap.size + 1, 0, none⟩) (by simp) _).setCell (p := ⟨w.heap.size + 2, 0, none⟩) (by simp) _

  case done =>
    rintro D W hD ⟨c, L, h1, h2, h3, h4, h5⟩ hK
    have hDs : g1 + 2 < D := by have := ZW.out; omega
    have hg1W : g1 < W.heap.size := by omega
    have c5 := cell_of1 (HGS.out W c L h3 (g1 + 1) _ HG5.out)
    have r0 := HGS.out W c L h3 _ _ HG0.out
    have r1 := HGS.out W c L h3 _ _ HG1.out
    have r2 := HGS.out W c L h3 _ _ HG2.out
    have mc := mk_cells h3
    have m0 := mc 0 (by omega)
    have m1 := mc 1 (by omega)
    have m2 := mc 2 (by omega)
    have m3 := mc 3 (by omega)
    have m4 := mc 4 (by omega)
    have m5 := mc 5 (by omega)
    have m6 := mc 6 (by omega)
    have m7 := mc 7 (by omega)
    have m8 := mc 8 (by omega)
    have m9 := mc 9 (by omega)
    have m10 := mc 10 (by omega)
    have m11 := mc 11 (by omega)
    have m12 := mc 12 (by omega)
    have m13 := mc 13 (by omega)
    have m14 := mc 14 (by omega)
    have hck := check_any hS W (S.up (Nat.le_trans (by omega) h5) (S.keep hi h4)) c
    have hpf : parseF (S := S) text = if (S.fn 12 [rowC c]).i = 0 then .tup [rowC c, .int 0, .int 0] else .tup [zeroC, .int 0, .int (S.fn 12 [rowC c]).i] := by
      unfold parseF
      rw [h1]
    have CK := Lib.hid hck
    have HPF := Lib.hid hpf
    have H4 := Lib.hid h4
    generalize (S.fn 12 [rowC c]).i = ck at CK HPF
    clear hck hpf h1 h2 h3 h4 mc
    have hsz := (Array.getElem?_eq_some_iff.1 r2).1
    by_cases hk : ck = 0
    · gi_wp2_with (first
        | (refine ⟨trivial, ?_⟩; gi_at_call 12; refine (callsIn_wide.2 CK.out).mono ?_; rintro e W2 ⟨rfl, hb2⟩; have n0 := (hb2.cell (p := ⟨g1, 0, none⟩) hg1W).trans m0; have n1 := (hb2.cell (p := ⟨g1, 1, none⟩) hg1W).trans m1; have n2 := (hb2.cell (p := ⟨g1, 2, none⟩) hg1W).trans m2; have n3 := (hb2.cell (p := ⟨g1, 3, none⟩) hg1W).trans m3; have n4 := (hb2.cell (p := ⟨g1, 4, none⟩) hg1W).trans m4; have n5 := (hb2.cell (p := ⟨g1, 5, none⟩) hg1W).trans m5; have n6 := (hb2.cell (p := ⟨g1, 6, none⟩) hg1W).trans m6; have n7 := (hb2.cell (p := ⟨g1, 7, none⟩) hg1W).trans m7; have n8 := (hb2.cell (p := ⟨g1, 8, none⟩) hg1W).trans m8; have n9 := (hb2.cell (p := ⟨g1, 9, none⟩) hg1W).trans m9; have n10 := (hb2.cell (p := ⟨g1, 10, none⟩) hg1W).trans m10; have n11 := (hb2.cell (p := ⟨g1, 11, none⟩) hg1W).trans m11; have n12 := (hb2.cell (p := ⟨g1, 12, none⟩) hg1W).trans m12; have n13 := (hb2.cell (p := ⟨g1, 13, none⟩) hg1W).trans m13; have n14 := (hb2.cell (p := ⟨g1, 14, none⟩) hg1W).trans m14; have n16 := (hb2.cell (p := ⟨g1 + 1, 0, none⟩) (show g1 + 1 < W.heap.size by omega)).trans c5; clear c5 m0 m1 m2 m3 m4 m5 m6 m7 m8 m9 m10 m11 m12 m13 m14; have R0 := Lib.hid ((hb2.block _ (show w.heap.size < W.heap.size by omega)).trans r0); have R1 := Lib.hid ((hb2.block _ (show w.heap.size + 1 < W.heap.size by omega)).trans r1); have R2 := Lib.hid ((hb2.block _ (show w.heap.size + 2 < W.heap.size by omega)).trans r2); have hK2 := (hb2.block D (Array.getElem?_eq_some_iff.1 hK).1).trans hK; have HB2 := Lib.hid hb2; clear hb2)
        | (refine stop_store 24 ?_))
      refine ⟨?_⟩
      refine wpListIn_store_row rfl 24 (.tmp 2) (.tmp 37) rfl w.heap.size (intRow fun j => (c j).i) rfl rfl 24 zrow R0.out (by kernel_rfl) rfl (by simp [Value.oneCell']) ?_
      have R0' := Lib.hid (setRow_heap W2 w.heap.size zrow (intRow fun j => (c j).i) _ _ R0.out)
      have R1' := Lib.hid ((setRow_other W2 w.heap.size (w.heap.size + 1) (intRow fun j => (c j).i) (by omega)).trans R1.out)
      have R2' := Lib.hid ((setRow_other W2 w.heap.size (w.heap.size + 2) (intRow fun j => (c j).i) (by omega)).trans R2.out)
      have hK' := (setRow_other W2 w.heap.size D (intRow fun j => (c j).i) (by omega)).trans hK2
      have HB' := Lib.hid (below_setRowP ((H4.out.trans (HB2.out.mono (by omega)))) (Nat.le_refl _) (intRow fun j => (c j).i))
      generalize W2.setRow w.heap.size (intRow fun j => (c j).i) = W3 at R0' R1' R2' hK' HB' ⊢
      have r1' := cell_of1 R1'.out
      have r2' := cell_of1 R2'.out
      have f1' : W3.frozen? ⟨w.heap.size + 1, 0, none⟩ = false := frozen_of_row _ _ _ _ _ R1'.out
      have f2' : W3.frozen? ⟨w.heap.size + 2, 0, none⟩ = false := frozen_of_row _ _ _ _ _ R2'.out
      have s1 := heap_setCell_same W3 (w.heap.size + 1) 0 #[.int .i64 0] 3 (.int .i64 0) R1'.out
      have s2 : (W3.setCell ⟨w.heap.size + 1, 0, none⟩ (.int .i64 0)).heap[w.heap.size + 2]? = some (.cells #[.int .i64 0] 25 (0, 0)) := (heap_setCell_other _ _ _ _ (by dsimp only; omega)).trans R2'.out
      have s3 := heap_setCell_same _ (w.heap.size + 2) 0 #[.int .i64 0] 25 (.int .i64 0) s2
      have s0 : ((W3.setCell ⟨w.heap.size + 1, 0, none⟩ (.int .i64 0)).setCell ⟨w.heap.size + 2, 0, none⟩ (.int .i64 0)).heap[w.heap.size]? = some (.cells (intRow fun j => (c j).i) 24 (0, 0)) := (heap_setCell_other _ _ _ _ (by dsimp only; omega)).trans ((heap_setCell_other _ _ _ _ (by dsimp only; omega)).trans R0'.out)
      have s1' : ((W3.setCell ⟨w.heap.size + 1, 0, none⟩ (.int .i64 0)).setCell ⟨w.heap.size + 2, 0, none⟩ (.int .i64 0)).heap[w.heap.size + 1]? = some (.cells #[.int .i64 0] 3 (0, 0)) := (heap_setCell_other _ _ _ _ (by dsimp only; omega)).trans s1
      have hK3 : ((W3.setCell ⟨w.heap.size + 1, 0, none⟩ (.int .i64 0)).setCell ⟨w.heap.size + 2, 0, none⟩ (.int .i64 0)).heap[D]? = some (.deferred (some [])) := (heap_setCell_other _ _ _ _ (by dsimp only; omega)).trans ((heap_setCell_other _ _ _ _ (by dsimp only; omega)).trans hK')
      have hbel := (HB'.out.setCell (p := ⟨w.heap.size + 1, 0, none⟩) (by simp) (.int .i64 0)).setCell (p := ⟨w.heap.size + 2, 0, none⟩) (by simp) (.int .i64 0)
      have FIN := Lib.hid (show _ ∧ _ ∧ _ ∧ _ ∧ _ from ⟨s0, s1', s3, hK3, hbel⟩)
      clear s0 s1 s1' s2 s3 hK3 hbel
      gi_wp2
      obtain ⟨s0, s1, s2, s3, hbel⟩ := FIN.out
      generalize ((W3.setCell ⟨w.heap.size + 1, 0, none⟩ (.int .i64 0)).setCell ⟨w.heap.size + 2, 0, none⟩ (.int .i64 0)) = W4 at s0 s1 s2 s3 hbel
      have hm := moved_put W4 D (.deferred none)
      have k2 := (Array.getElem?_eq_some_iff.1 s2).1
      have q0 := (hm.block w.heap.size (by omega) (by omega)).trans s0
      have q1 := (hm.block (w.heap.size + 1) (by omega) (by omega)).trans s1
      have q2 := (hm.block (w.heap.size + 1 + 1) (by omega) (by omega)).trans s2
      have hbf := moved_below hbel hm (by omega) (by omega)
      refine ⟨by simp, .inl ⟨_, _, rfl, run_takeDeferred s3, ?_⟩⟩
      refine ⟨_, pa_res (c := fun j => (c j).i) rfl rfl rfl q0 q1 q2, ?_, hbf⟩
      rw [HPF.out]
      rw [if_pos hk]
      rfl
    · gi_wp2_with (first
        | (refine ⟨trivial, ?_⟩; gi_at_call 12; refine (callsIn_wide.2 CK.out).mono ?_; rintro e W2 ⟨rfl, hb2⟩; have n0 := (hb2.cell (p := ⟨g1, 0, none⟩) hg1W).trans m0; have n1 := (hb2.cell (p := ⟨g1, 1, none⟩) hg1W).trans m1; have n2 := (hb2.cell (p := ⟨g1, 2, none⟩) hg1W).trans m2; have n3 := (hb2.cell (p := ⟨g1, 3, none⟩) hg1W).trans m3; have n4 := (hb2.cell (p := ⟨g1, 4, none⟩) hg1W).trans m4; have n5 := (hb2.cell (p := ⟨g1, 5, none⟩) hg1W).trans m5; have n6 := (hb2.cell (p := ⟨g1, 6, none⟩) hg1W).trans m6; have n7 := (hb2.cell (p := ⟨g1, 7, none⟩) hg1W).trans m7; have n8 := (hb2.cell (p := ⟨g1, 8, none⟩) hg1W).trans m8; have n9 := (hb2.cell (p := ⟨g1, 9, none⟩) hg1W).trans m9; have n10 := (hb2.cell (p := ⟨g1, 10, none⟩) hg1W).trans m10; have n11 := (hb2.cell (p := ⟨g1, 11, none⟩) hg1W).trans m11; have n12 := (hb2.cell (p := ⟨g1, 12, none⟩) hg1W).trans m12; have n13 := (hb2.cell (p := ⟨g1, 13, none⟩) hg1W).trans m13; have n14 := (hb2.cell (p := ⟨g1, 14, none⟩) hg1W).trans m14; have n16 := (hb2.cell (p := ⟨g1 + 1, 0, none⟩) (show g1 + 1 < W.heap.size by omega)).trans c5; clear c5 m0 m1 m2 m3 m4 m5 m6 m7 m8 m9 m10 m11 m12 m13 m14; have R0 := Lib.hid ((hb2.block _ (show w.heap.size < W.heap.size by omega)).trans r0); have R1 := Lib.hid ((hb2.block _ (show w.heap.size + 1 < W.heap.size by omega)).trans r1); have R2 := Lib.hid ((hb2.block _ (show w.heap.size + 2 < W.heap.size by omega)).trans r2); have hK2 := (hb2.block D (Array.getElem?_eq_some_iff.1 hK).1).trans hK; have HB2 := Lib.hid hb2; clear hb2)
        | (refine stop_store 24 ?_))
      refine ⟨?_⟩
      refine wpListIn_store_row rfl 24 (.tmp 2) (.tmp 32) rfl w.heap.size zrow rfl rfl 24 zrow R0.out (by kernel_rfl) rfl (by simp [Value.oneCell']) ?_
      have R0' := Lib.hid (setRow_heap W2 w.heap.size zrow zrow _ _ R0.out)
      have R1' := Lib.hid ((setRow_other W2 w.heap.size (w.heap.size + 1) zrow (by omega)).trans R1.out)
      have R2' := Lib.hid ((setRow_other W2 w.heap.size (w.heap.size + 2) zrow (by omega)).trans R2.out)
      have hK' := (setRow_other W2 w.heap.size D zrow (by omega)).trans hK2
      have HB' := Lib.hid (below_setRowP ((H4.out.trans (HB2.out.mono (by omega)))) (Nat.le_refl _) zrow)
      generalize W2.setRow w.heap.size zrow = W3 at R0' R1' R2' hK' HB' ⊢
      have r1' := cell_of1 R1'.out
      have r2' := cell_of1 R2'.out
      have f1' : W3.frozen? ⟨w.heap.size + 1, 0, none⟩ = false := frozen_of_row _ _ _ _ _ R1'.out
      have f2' : W3.frozen? ⟨w.heap.size + 2, 0, none⟩ = false := frozen_of_row _ _ _ _ _ R2'.out
      have s1 := heap_setCell_same W3 (w.heap.size + 1) 0 #[.int .i64 0] 3 (.int .i64 0) R1'.out
      have s2 : (W3.setCell ⟨w.heap.size + 1, 0, none⟩ (.int .i64 0)).heap[w.heap.size + 2]? = some (.cells #[.int .i64 0] 25 (0, 0)) := (heap_setCell_other _ _ _ _ (by dsimp only; omega)).trans R2'.out
      have s3 := heap_setCell_same _ (w.heap.size + 2) 0 #[.int .i64 0] 25 (.int .i64 ck) s2
      have s0 : ((W3.setCell ⟨w.heap.size + 1, 0, none⟩ (.int .i64 0)).setCell ⟨w.heap.size + 2, 0, none⟩ (.int .i64 ck)).heap[w.heap.size]? = some (.cells zrow 24 (0, 0)) := (heap_setCell_other _ _ _ _ (by dsimp only; omega)).trans ((heap_setCell_other _ _ _ _ (by dsimp only; omega)).trans R0'.out)
      have s1' : ((W3.setCell ⟨w.heap.size + 1, 0, none⟩ (.int .i64 0)).setCell ⟨w.heap.size + 2, 0, none⟩ (.int .i64 ck)).heap[w.heap.size + 1]? = some (.cells #[.int .i64 0] 3 (0, 0)) := (heap_setCell_other _ _ _ _ (by dsimp only; omega)).trans s1
      have hK3 : ((W3.setCell ⟨w.heap.size + 1, 0, none⟩ (.int .i64 0)).setCell ⟨w.heap.size + 2, 0, none⟩ (.int .i64 ck)).heap[D]? = some (.deferred (some [])) := (heap_setCell_other _ _ _ _ (by dsimp only; omega)).trans ((heap_setCell_other _ _ _ _ (by dsimp only; omega)).trans hK')
      have hbel := (HB'.out.setCell (p := ⟨w.heap.size + 1, 0, none⟩) (by simp) (.int .i64 0)).setCell (p := ⟨w.heap.size + 2, 0, none⟩) (by simp) (.int .i64 ck)
      have FIN := Lib.hid (show _ ∧ _ ∧ _ ∧ _ ∧ _ from ⟨s0, s1', s3, hK3, hbel⟩)
      clear s0 s1 s1' s2 s3 hK3 hbel
      gi_wp2
      obtain ⟨s0, s1, s2, s3, hbel⟩ := FIN.out
      generalize ((W3.setCell ⟨w.heap.size + 1, 0, none⟩ (.int .i64 0)).setCell ⟨w.heap.size + 2, 0, none⟩ (.int .i64 ck)) = W4 at s0 s1 s2 s3 hbel
      have hm := moved_put W4 D (.deferred none)
      have k2 := (Array.getElem?_eq_some_iff.1 s2).1
      have q0 := (hm.block w.heap.size (by omega) (by omega)).trans s0
      have q1 := (hm.block (w.heap.size + 1) (by omega) (by omega)).trans s1
      have q2 := (hm.block (w.heap.size + 1 + 1) (by omega) (by omega)).trans s2
      have hbf := moved_below hbel hm (by omega) (by omega)
      refine ⟨by simp, .inl ⟨_, _, rfl, run_takeDeferred s3, ?_⟩⟩
      refine ⟨_, pa_res (c := fun _ => 0) rfl rfl rfl q0 q1 q2, ?_, hbf⟩
      rw [HPF.out]
      rw [if_neg hk]
      rfl
  case stop =>
    rintro D pre W hD ⟨⟨post, hx⟩, n, e, h1, r0, r1, r2, hb⟩ hK
    have hDs : w.heap.size + 2 < D := by have := ZW.out; omega
    have hpf : parseF (S := S) text = .tup [zeroC, .int n, .int e] := by
      unfold parseF
      rw [hx, goF_stop pre post usC [] n e h1]
    have hm := moved_put W D (.deferred none)
    have k2 := (Array.getElem?_eq_some_iff.1 r2).1
    have q0 := (hm.block w.heap.size (by omega) (by omega)).trans r0
    have q1 := (hm.block (w.heap.size + 1) (by omega) (by omega)).trans r1
    have q2 := (hm.block (w.heap.size + 1 + 1) (by omega) (by omega)).trans r2
    have hbf := moved_below hb hm (by omega) (by omega)
    gi_wp2
    refine ⟨by simp, .inl ⟨_, _, rfl, run_takeDeferred hK, ?_⟩⟩
    refine ⟨_, pa_res (c := fun _ => 0) rfl rfl rfl q0 q1 q2, ?_, hbf⟩
    rw [hpf]
    rfl
end Go.Proofs.YtdflkikhmngfiaaGreatDoor

