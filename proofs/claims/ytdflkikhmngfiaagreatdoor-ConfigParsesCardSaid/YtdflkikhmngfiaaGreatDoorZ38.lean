/- A line is taken: the call, in its caller's memory. -/
import Derived.Test.YtdflkikhmngfiaaGreatDoorZ31
import Derived.Test.YtdflkikhmngfiaaGreatDoorZ34
namespace Go.Proofs.YtdflkikhmngfiaaGreatDoor
open Go.RowKit
set_option linter.unusedVariables false
set_option linter.unusedSimpArgs false
set_option linter.unusedSectionVars false

theorem number_ok [S : Sy] (hS : MlS S) : FnOK Tryz.prog fsNumber := by
  refine ⟨fun w vs => MuLone.run_callFunc_enter Tryz.func32 (prog_N _ _ _ Tryz.func32 rfl) rfl vs w, fun F W ps vs hF hi ha hp => ?_⟩
  obtain ⟨a, x, rfl, rfl, h1⟩ := args1 ha
  obtain rfl := str_rp h1
  have h := hp 34 rfl
  rw [hS.numpre] at h
  injection h with h
  refine (reqNumber a.s W (of_decide_eq_true h)).mono ?_
  rintro e w' ⟨rfl, hb⟩
  refine ⟨_, rfl, ?_, hb⟩
  show resOK _ [.sh (.int .i64), .sh .bool] (S.fn 4 [a]) _
  rw [hS.num]
  exact ⟨_, rfl, _, _, rfl, by simp only [Tm.rp, Sh.rp]; rfl, _, _, rfl, by simp only [Tm.rp, Sh.rp]; rfl, rfl⟩
theorem mlL_ok [S : Sy] (hS : MlS S) : ∀ s ∈ mlL, FnOK Tryz.prog s := fun s hs => by
  simp only [mlL, List.mem_cons, List.not_mem_nil, or_false] at hs
  rcases hs with rfl | rfl
  · exact cw_ok hS.toCfS
  · exact number_ok hS
theorem MlS.wg {S : Sy} (h : MlS S) (G : Nat → Option Obj) : MlS (S.wg G) := ⟨⟨h.cut, h.cutpre, h.split, h.splitpre, h.words, h.wordspre, h.inv⟩, h.num, h.numpre⟩
/-- The maker, at its block: what it holds, beside ghosts. -/
def MkRep (S : Sy) (G : Nat → Option Obj) (B bm bx : Nat) (c : Nat → PV) (L : List ByteArray) (W : World) : Prop :=
  ∃ (ρ : Pm) (env : Env), @Rep ((S.wg G).at env) B ρ mlE.hp W ∧ (∃ cc, ρ 0 = some (bm, 0, cc)) ∧ (∀ j, j < 15 → env (j + 1) = c j) ∧ env 16 = .lst (L.map PV.str) ∧ unheld mlE.hp ρ bx
/-- From one line's end to the next one's start: names for names. -/
def mkσ : List Xp := [.var 0, .var 19, .var 21, .var 22, .var 23, .var 24, .var 25, .var 26, .var 27, .var 28, .var 29, .var 30, .var 31, .var 32, .var 33, .var 34, .var 20]
theorem mk_okH : okH mkσ [(0, 0), (1, 1)] mlE.h ml_ret.hp = true := by kernel_rfl
theorem mk_okR : okR [(0, 0), (1, 1)] mlE.h = true := by kernel_rfl
theorem mk_a : mlE.a = [(0, .ptr 0 0), (1, .sx .str (.var 0))] := rfl
theorem mk_mt {n : Nat} (h : (mt mlE.hp n).held = true) : n = 0 ∨ n = 1 := by
  unfold mt at h
  cases hg : mlE.hp.get n with
  | none => rw [hg] at h; cases h
  | some b =>
    obtain ⟨tb, h1, _⟩ := mem_blks (putL_some hg)
    have h1 : (n, tb) ∈ [_, _] := h1
    rcases List.mem_cons.1 h1 with e | e
    · injection e with e1; exact .inl e1
    · rcases List.mem_cons.1 e with e | e
      · injection e with e1; exact .inr e1
      · cases e
theorem mk_retheld0 : (mt ml_ret.hp 0).held = true := by kernel_rfl
theorem mk_retheld1 : (mt ml_ret.hp 1).held = true := by kernel_rfl
theorem ml_rest : ml_ret.fr.get 4 = some (.sx (.int .i64) (.var 18)) := by kernel_rfl
theorem ml_nt2 : Nat.ble 2 ml_F.ntmps = true := by kernel_rfl
theorem ml_results (act : Act) (w : World) (v : Value) (h : act.tmps[4]? = some v) : (results ml_F act.tmps).run Tryz.prog w = .ok v w := by
  have hr : ml_F.results = #[.tmp 4] := by kernel_rfl
  unfold results
  rw [hr]
  simp [go_sem, Array.getD_eq_getD_getElem?, h]
def mkι (l : List Nat) : List Xp := [.str l, .var 1, .var 2, .var 3, .var 4, .var 5, .var 6, .var 7, .var 8, .var 9, .var 10, .var 11, .var 12, .var 13, .var 14, .var 15, .var 16]
theorem mk_okι (l : List Nat) : okH (mkι l) [(0, 0), (1, 1)] mlE.h mlE.hp = true := by kernel_rfl
theorem rn_id {ρ : Pm} {n : Nat} (h : n = 0 ∨ n = 1) : rnP [(0, 0), (1, 1)] ρ n = ρ n := by
  rcases h with rfl | rfl
  · exact rnP_at (by rfl)
  · exact rnP_at (by rfl)
theorem bytesOf_all (s : ByteArray) : bytesOf (s.data.toList.map UInt8.toNat) = s := by
  unfold bytesOf
  rw [List.map_map]
  have : (UInt8.ofNat ∘ UInt8.toNat) = id := by funext b; simp
  rw [this, List.map_id]
theorem unheld_E {ρ : Pm} {j : Nat} (h : unheld mlE.hp ρ j) : unheld mlE.hp (rnP [(0, 0), (1, 1)] ρ) j := fun n f c hl hp => by
  have hn := mk_mt hl
  rw [rn_id hn] at hp
  exact h n f c hl hp
theorem unheld_R {ρ : Pm} {j : Nat} (h : unheld ml_ret.hp ρ j) : unheld mlE.hp (rnP [(0, 0), (1, 1)] ρ) j := fun n f c hl hp => by
  have hn := mk_mt hl
  rw [rn_id hn] at hp
  rcases hn with rfl | rfl
  · exact h 0 f c mk_retheld0 hp
  · exact h 1 f c mk_retheld1 hp
theorem rep_above {S : Sy} {B : Nat} {ρ : Pm} {h : Heap} {w : World} (hr : @Rep S B ρ h w) {n b f c : Nat} (hl : (mt h n).held = true) (hn : ρ n = some (b, f, c)) : B ≤ b ∧ ∃ arr el fz, w.heap[b]? = some (.cells arr el fz) ∨ ∃ ms ck, w.heap[b]? = some (.map ms ck) := by
  cases hm : mt h n with
  | row el z sz o =>
    obtain ⟨b2, f2, c2, ob, h1, h2, h3, h4⟩ := hr.live n (by rw [hm]; rfl)
    rw [hn] at h1
    injection h1 with h1
    injection h1 with h1 _
    subst h1
    rw [hm] at h4
    obtain ⟨arr, fz, h5, _⟩ := h4
    exact ⟨h2, arr, el, fz, .inl (by rw [h3, h5])⟩
  | mp es =>
    obtain ⟨b2, f2, c2, ob, h1, h2, h3, h4⟩ := hr.live n (by rw [hm]; rfl)
    rw [hn] at h1
    injection h1 with h1
    injection h1 with h1 _
    subst h1
    rw [hm] at h4
    obtain ⟨ms, ck, h5, _⟩ := h4
    exact ⟨h2, #[], 0, (0, 0), .inr ⟨ms, ck, by rw [h3, h5]⟩⟩
  | tok el sh e =>
    rcases hr.tok n el sh e hm with ⟨_, h1⟩ | ⟨b2, c2, arr, fz, h1, h2, h3, _⟩
    · rw [hn] at h1; cases h1
    · rw [hn] at h1
      injection h1 with h1
      injection h1 with h1 _
      subst h1
      exact ⟨h2, arr, el, fz, .inl h3⟩
  | none => rw [hm] at hl; cases hl
  | dead => rw [hm] at hl; cases hl
theorem mk_nomap : ∀ n es, mt mlE.hp n ≠ .mp es := fun n es h => by
  have hn := mk_mt (n := n) (by rw [h]; rfl)
  rcases hn with rfl | rfl
  · have : mt mlE.hp 0 = .row 44 1 16 false := by kernel_rfl
    rw [this] at h; cases h
  · have : mt mlE.hp 1 = .tok 9 [.str] (.var 16) := by kernel_rfl
    rw [this] at h; cases h
theorem unheld_other {S : Sy} {B : Nat} {ρ : Pm} {w : World} (hr : @Rep S B ρ mlE.hp w) {j : Nat} {o : Obj} (hj : w.heap[j]? = some o) (ho : o.isCells = false) : unheld mlE.hp ρ j := fun n f c hl hp => by
  cases hm : mt mlE.hp n with
  | mp es => exact mk_nomap n es hm
  | row el z sz o2 =>
    obtain ⟨b2, f2, c2, ob, h1, h2, h3, h4⟩ := hr.live n (by rw [hm]; rfl)
    rw [hp] at h1
    injection h1 with h1
    injection h1 with h1 _
    subst h1
    rw [hm] at h4
    obtain ⟨arr, fz, rfl, _⟩ := h4
    rw [hj] at h3
    injection h3 with h3
    subst h3
    cases ho
  | tok el sh e =>
    rcases hr.tok n el sh e hm with ⟨_, h1⟩ | ⟨b2, c2, arr, fz, h1, h2, h3, _⟩
    · rw [hp] at h1; cases h1
    · rw [hp] at h1
      injection h1 with h1
      injection h1 with h1 _
      subst h1
      rw [hj] at h3
      injection h3 with h3
      subst h3
      cases ho
  | none => rw [hm] at hl; cases hl
  | dead => rw [hm] at hl; cases hl
theorem lineF_congr {c c' : Nat → PV} {L : List ByteArray} {s : ByteArray} (h : ∀ j, j < 15 → c j = c' j) : (lineF c L s).1 = (lineF c' L s).1 ∧ (lineF c L s).2.2 = (lineF c' L s).2.2 ∧ ∀ j, j < 15 → (lineF c L s).2.1 j = (lineF c' L s).2.1 j := by
  unfold lineF
  split
  · exact ⟨rfl, rfl, h⟩
  · split
    · exact ⟨rfl, rfl, h⟩
    · split
      · exact ⟨rfl, rfl, h⟩
      · split
        · exact ⟨rfl, rfl, h⟩
        · split
          · exact ⟨rfl, rfl, fun j hj => by dsimp only; split; rfl; exact h j hj⟩
          · exact ⟨rfl, rfl, h⟩
    · exact ⟨rfl, rfl, h⟩
theorem line_call {S : Sy} (hS : MlS S) {G : Nat → Option Obj} {B bm bx : Nat} {c : Nat → PV} {L : List ByteArray} {W : World} (hI : MkRep S G B bm bx c L W) (hbx : bx < W.heap.size) (hmx : 0 < B) (line : ByteArray) (hz : line.size ≤ 60000) (hL : L.length ≤ 60000) :
    Calls Tryz.prog 15 #[.pointer (some ⟨bm, 0, none⟩), .string line] W fun e W' => e = .returned (.int .i64 (lineF c L line).1) ∧ MkRep S G B bm bx (lineF c L line).2.1 (lineF c L line).2.2 W' ∧ KeepsOthers W W' ∧ W'.heap[bx]? = W.heap[bx]? ∧ W'.heap[0]? = W.heap[0]? ∧ Below B W W' := by
  obtain ⟨ρ, env0, hrep, ⟨cc, h0⟩, hc, hl, hun⟩ := hI
  let S0 : Sy := (S.wg G).at env0
  have hrep2 := @rep_tpl S0 noDc (@noDc_ok S0) B ρ mlE.hp W (mkι (line.data.toList.map UInt8.toNat)) [(0, 0), (1, 1)] mlE hrep (mk_okι _) mk_okR
  have hsz2 : B ≤ W.heap.size := @Rep.size S0 _ _ _ _ hrep
  let ρ1 := rnP [(0, 0), (1, 1)] ρ
  let env : Env := @envOf S0 (mkι (line.data.toList.map UInt8.toNat))
  have e0 : env 0 = .str line := congrArg PV.str (bytesOf_all line)
  have ec : ∀ j, j < 15 → env (j + 1) = env0 (j + 1) := all15 rfl rfl rfl rfl rfl rfl rfl rfl rfl rfl rfl rfl rfl rfl rfl
  have e16 : env 16 = .lst (L.map PV.str) := hl
  have hs0 : (env 0).s = line := by rw [e0]; rfl
  obtain ⟨g1, g2, g3⟩ := lineF_congr (L := L) (s := line) (fun j hj => (ec j hj).trans (hc j hj))
  have h01 : ρ1 0 = some (bm, 0, cc) := (rn_id (.inl rfl)).trans h0
  refine (spec_heap (S := S.wg G) (R := fun G2 => @ml_R ((S.wg G).wg G2)) (Φ := fun e => e 18 = .int (lineF c L line).1 ∧ e 20 = .lst ((lineF c L line).2.2.map PV.str) ∧ ∀ j, j < 15 → e (vx j) = (lineF c L line).2.1 j) (ks := [0]) (t := 4) (x := .sx (.int .i64) (.var 18)) (ρ := ρ1) (env := env) (vs := #[.pointer (some ⟨bm, 0, none⟩), .string line]) Tryz.func15 ml_body ml_results (fun G2 => @ml_spec ((S.wg G).wg G2) (@mlL_ok ((S.wg G).wg G2) ((hS.wg G).wg G2))) (fun n hn => by rw [List.mem_singleton.1 hn]; exact ⟨_, h01⟩) hrep2 (Nat.le_of_ble_eq_true ml_nt2) ?_ (fun G2 => ?_) ml_rest).mono ?_
  · intro t x hx
    have hx : (t, x) ∈ [_, _] := hx
    rcases List.mem_cons.1 hx with e | e
    · injection e with e1 e2
      subst e1 e2
      refine ⟨_, rfl, ?_⟩
      simp only [AV.rp]
      exact ⟨bm, 0, cc, h01, rfl⟩
    · rcases List.mem_cons.1 e with e | e
      · injection e with e1 e2
        subst e1 e2
        refine ⟨_, rfl, ?_⟩
        simp only [AV.rp, Sh.rp]
        show Value.string line = .string (env 0).s
        rw [hs0]
      · cases e
  · obtain ⟨out, hR, env', rfl, q18, q20, qc⟩ := @ml_all ((S.wg G).wg G2) ((hS.wg G).wg G2) env L (by rw [hs0]; exact hz) e16 hL
    rw [hs0] at q18 q20 qc
    rw [g1] at q18
    rw [g2] at q20
    exact ⟨env', hR, q18, q20, fun j hj => (qc j hj).trans (g3 j hj)⟩
  · rintro e W' ⟨env', ρ', v, ⟨q18, q20, qc⟩, rfl, hv, hrep', hks, hbel, hfr⟩
    have hv' : v = .int .i64 (lineF c L line).1 := by
      simp only [AV.rp, Sh.rp] at hv
      have hv : v = .int .i64 (env' 18).i := hv
      rw [hv, q18]
      rfl
    subst hv'
    let S1 : Sy := (S.wg G).at env'
    have hrep3 := @rep_tpl S1 noDc (@noDc_ok S1) B ρ' ml_ret.hp W' mkσ [(0, 0), (1, 1)] mlE hrep' mk_okH mk_okR
    have hfbx := hfr bx hbx (unheld_E hun)
    have hmxu : unheld mlE.hp ρ1 0 := fun n f c2 hl2 hp2 => by
      have := (rep_above hrep2 hl2 hp2).1
      omega
    refine ⟨rfl, ⟨rnP [(0, 0), (1, 1)] ρ', @envOf S1 mkσ, hrep3, ⟨cc, ?_⟩, fun j hj => ?_, ?_, unheld_R hfbx.2⟩, ⟨hbel.size, fun k o hk ho => ?_⟩, hfbx.1, ?_, hbel⟩
    · rw [rn_id (.inl rfl), hks 0 (by simp), h01]
    · rw [← qc j hj]
      exact all15 (P := fun j => @envOf S1 mkσ (j + 1) = env' (vx j)) rfl rfl rfl rfl rfl rfl rfl rfl rfl rfl rfl rfl rfl rfl rfl j hj
    · exact q20
    · exact (hfr k (Array.getElem?_eq_some_iff.1 hk).1 (unheld_other hrep2 hk ho)).1.trans hk
    · exact (hfr _ (Nat.lt_of_lt_of_le hmx hsz2) hmxu).1
end Go.Proofs.YtdflkikhmngfiaaGreatDoor

