/- The document's count. -/
import Derived.Test.YtbpcknjobbjmpaaDoorStaM
import Derived.Deep.RegionHeld3
namespace Go.Proofs.YtbpcknjobbjmpaaDoor
open Go.RowKit
set_option linter.unusedVariables false
set_option linter.unusedSimpArgs false

def Fat.cells (f : Fat) : List Value := [.int .i64 f.c, .int .i64 f.s, .int .i64 f.k, .int .i64 f.n]
def ftc (L : List Fat) : List Value := L.flatMap Fat.cells
theorem ftc_cons (f : Fat) (L : List Fat) : ftc (f :: L) = f.cells ++ ftc L := by simp [ftc]
theorem ftc_append (a b : List Fat) : ftc (a ++ b) = ftc a ++ ftc b := by simp [ftc]
theorem ftc_len (L : List Fat) : (ftc L).length = L.length * 4 := by
  induction L with
  | nil => rfl
  | cons f l ih => rw [ftc_cons, List.length_append, ih, List.length_cons]; simp [Fat.cells]; omega
theorem ftc_one (L : List Fat) : ∀ u ∈ ftc L, u.oneCell' = true := by
  intro u hu
  obtain ⟨f, _, hf⟩ := List.mem_flatMap.1 hu
  simp [Fat.cells] at hf
  rcases hf with rfl | rfl | rfl | rfl <;> rfl
theorem ftc_get (L : List Fat) : ∀ (i : Nat) (x : Fat), L[i]? = some x → (ftc L)[i * 4]? = some (.int .i64 x.c) ∧ (ftc L)[i * 4 + 1]? = some (.int .i64 x.s) ∧ (ftc L)[i * 4 + 2]? = some (.int .i64 x.k) ∧ (ftc L)[i * 4 + 3]? = some (.int .i64 x.n) := by
  induction L with
  | nil => intro i f h; simp at h
  | cons g l ih =>
    intro i f h
    cases i with
    | zero => simp at h; subst h; simp [ftc, Fat.cells]
    | succ i =>
      have := ih i f (by simpa using h)
      rw [ftc_cons, show (i + 1) * 4 = i * 4 + 1 + 1 + 1 + 1 from by omega]
      simpa [Fat.cells] using this
theorem addr_add0 (g j : Nat) : ((⟨g, 0, none⟩ : Addr).add j) = ⟨g, j, none⟩ := by unfold Addr.add; split <;> simp_all
/-- Fates in memory of one's own. -/
def OwnT (w : World) (B : Nat) (v : Value) (L : List Fat) : Prop := w.ownsRow B 30 4 v L.length (ftc L)
theorem OwnT.step {w w' : World} {B : Nat} {v : Value} {L : List Fat} (h : OwnT w B v L) (hb : Below w.heap.size w w') : OwnT w' B v L := owns_below h hb
theorem OwnT.near {p : Nat} {w w' : World} {B : Nat} {v : Value} {L : List Fat} (h : OwnT w B v L) (hp : p < B) (hb : Near p w.heap.size w w') : OwnT w' B v L := by
  refine ⟨h.1, ?_⟩
  rcases h.2 with h0 | ⟨g, cap, cur, e, hb2, hg, h1⟩
  · exact .inl h0
  · exact .inr ⟨g, cap, cur, e, hb2, (hb.block g (Array.getElem?_eq_some_iff.1 hg).1 (by omega)).trans hg, h1⟩
theorem OwnT.mono {w : World} {B B' : Nat} {v : Value} {L : List Fat} (h : OwnT w B v L) (hb : B' ≤ B) : OwnT w B' v L := World.ownsRow.mono h hb
theorem OwnT.nil (w : World) (B : Nat) : OwnT w B (.slice none 0 0) [] := World.ownsRow_nil _ _ _ _
theorem OwnT.cells {w : World} {B : Nat} {g cap : Nat} {L : List Fat} (h : OwnT w B (.slice (some ⟨g, 0, none⟩) L.length cap) L) : ∀ j u, (ftc L)[j]? = some u → w.cell? ((⟨g, 0, none⟩ : Addr).add j) = some u := World.ownsRow.cells h rfl
theorem OwnT.form {w : World} {B : Nat} {v : Value} {L : List Fat} (h : OwnT w B v L) : (v = .slice none 0 0 ∧ L = []) ∨ ∃ g cap, v = .slice (some ⟨g, 0, none⟩) L.length cap ∧ FatesN w (some ⟨g, 0, none⟩) L ∧ B ≤ g ∧ g < w.heap.size := by
  rcases h.2 with ⟨rfl, h0⟩ | ⟨g, cap, cur, rfl, hb, hg, h1, h2, _⟩
  · exact .inl ⟨rfl, List.length_eq_zero_iff.1 h0⟩
  · refine .inr ⟨g, cap, rfl, fun i x hx => ?_, hb, (Array.getElem?_eq_some_iff.1 hg).1⟩
    obtain ⟨q1, q2, q3, q4⟩ := ftc_get L i x hx
    have hc : ∀ j u, (ftc L)[j]? = some u → w.cell? ⟨g, 0 + j, none⟩ = some u := fun j u hu => by
      have := World.ownsRow.cells h (g := g) rfl j u hu
      rw [addr_add0] at this
      simpa using this
    exact ⟨g, 0, rfl, hc _ _ q1, hc _ _ q2, hc _ _ q3, hc _ _ q4⟩
theorem OwnT.fates {w : World} {B : Nat} {v : Value} {L : List Fat} (h : OwnT w B v L) : ∃ oa cap, v = .slice oa L.length cap ∧ FatesN w oa L := by
  rcases h.form with ⟨rfl, rfl⟩ | ⟨g, cap, rfl, hf, _⟩
  · exact ⟨none, 0, rfl, fun i f hi => by simp at hi⟩
  · exact ⟨_, cap, rfl, hf⟩
theorem OwnT.app {w' : World} {B : Nat} {v : Value} {n : Nat} {L : List Fat} {x : Fat} (hn : L.length = n) (h : w'.ownsRow B 30 4 v (n + 1) (ftc L ++ x.cells)) : OwnT w' B v (L ++ [x]) := by
  unfold OwnT
  rw [ftc_append, List.length_append, hn]
  exact (by simpa [ftc] using h)
theorem fate_info : (Tryd.prog.info? 30).map (fun i => (i.zero, i.size, i.bytes)) = some (some (.agg #[.int .i64 0, .int .i64 0, .int .i64 0, .int .i64 0]), 4, 32) := by kernel_rfl
def accN (V : List Fat) (f : Fat) : List Fat := if f.ok then V ++ [f] else V
def DCountPost (f : Fat) (V : List Fat) (B : Nat) (w : World) (e : Ending) (w' : World) : Prop :=
  ∃ v, e = .returned (.tuple #[v, .int .i64 (errC f)]) ∧ OwnT w' B v (accN V f) ∧ Below w.heap.size w w'
/-- 'append(nil, l...)' where l is a row of one's own (or nil). -/
theorem step_append_row0 {P : Program} {ops : Array Oper} {o : Oper} {a : Act} {w : World} {K : Act → World → Prop} {Q : Exit → Act → World → Prop} {E : Prop} (hgd : o.guard = none) (s x : Operand) (t : TypeId)
    (ho : o.op = .call { callee := .builtin .append, args := #[s, x], argTypes := #[t, t] }) (base : Nat) (e : TypeId) (i : TypeInfo) (z : Value) (size bytes : Nat) (ht : P.underlying t = some (.slice e)) (hi : P.info? e = some i) (hz : i.zero = some z)
    (hsize : i.size = size) (hby : i.bytes = bytes) (hzs : z.cells.size = size) (hsz : 0 < size)
    (hs : a.eval s = .slice none 0 0) (B' : Nat) (vx : Value) (m : Nat) (news : List Value) (hx : a.eval x = vx) (hox : w.ownsRow B' e size vx m news) (h1 : ∀ u ∈ news, u.oneCell' = true)
    (h63 : m ≤ maxLen) (hbytes : m * bytes ≤ 140737488355328) (hbase : base ≤ w.heap.size)
    (h : ∀ v' w', w'.ownsRow base e size v' m news → w.grownBy w' none → (v'.ownBlock = none ∨ v'.ownBlock = some w.heap.size) → K (a.put o.dst v') w') :
    if Region.wanted o (yielded ops a.tmps) = true then Oper.wp P o a w K Q else E := by
  have hw : Region.wanted o (yielded ops a.tmps) = true := by simp [Region.wanted, hgd]
  rw [if_pos hw]
  unfold Oper.wp execOp
  rcases hox.2 with ⟨hv, h0⟩ | ⟨g, cap, cur, hv, _⟩
  · rw [hv] at hx
    have hr : (Builtin.append_ #[t, t] o.type #[.slice none 0 0, .slice none 0 0]).run P w = .ok (.slice none 0 0) w := by
      simp [Builtin.append_, run_underlying ht, sizeOf, typeInfo, hi, Builtin.lenOf, Builtin.firstCells, loadCells, loadCellsFrom]
    simp only [ho, resolve, invoke, builtin, Sem.run_bind, Sem.run_pure, Result.andThen_ok, List.map_toArray, List.map_cons, List.map_nil, hs, hx, hr]
    refine h _ w ?_ ⟨rfl, rfl, rfl, Nat.le_refl _, fun _ _ _ => rfl⟩ (.inl rfl)
    subst h0
    have : news = [] := List.eq_nil_of_length_eq_zero (by have := hox.1; simpa using this)
    rw [this]
    exact World.ownsRow_nil _ _ _ _
  · rw [hv] at hx
    have hox' := hox
    rw [hv] at hox'
    obtain ⟨v', w', hr, h2, h3, _, h5⟩ := run_append_own_at (P := P) w base t o.type e i z size bytes ht hi hz hsize hby hzs hsz (.slice none 0 0) 0 [] (World.ownsRow_nil _ _ _ _) ⟨g, 0, none⟩ m cap news hox.1 (World.ownsRow.cells hox' rfl) h1 (by omega) (by rw [Nat.zero_add]; exact hbytes) hbase
    simp only [ho, resolve, invoke, builtin, Sem.run_bind, Sem.run_pure, Result.andThen_ok, List.map_toArray, List.map_cons, List.map_nil, hs, hx, hr]
    rw [Nat.zero_add, List.nil_append] at h2
    exact h _ w' h2 h3 h5
theorem al_step {w1 W : World} {R : Prop} {o : Obj} (h : Below w1.heap.size w1 W ∧ R) : Below w1.heap.size w1 (W.alloc o) := h.1.alloc h.1.size o
theorem al_stepq {n : Nat} {w1 W : World} {R : Prop} {o : Obj} (hn : n ≤ W.heap.size) (h : Below n w1 W ∧ R) : Below n w1 (W.alloc o) := h.1.alloc hn o
theorem ps_step {w2 Wc W' : World} {R : Prop} (hb : Below Wc.heap.size Wc W') (h : Below w2.heap.size w2 Wc ∧ R) : Below w2.heap.size w2 W' := h.1.trans (hb.mono h.1.size)
set_option maxRecDepth 100000 in
set_option maxHeartbeats 4000000 in
theorem dcount_any (B : Nat) (v : Value) (V : List Fat) (hl : V.length < 100) (hok : ∀ f ∈ V, f.ok = true) (f : Fat) (w : World) (hB : B ≤ w.heap.size) (ho : OwnT w B v V) :
    Calls Tryd.prog 11 #[v, f.val] w (DCountPost f V B w) := by
  have HB0 := Lib.hid ((Below.refl w.heap.size w).alloc (Nat.le_refl _) (.cells #[.int .i64 f.c, .int .i64 f.s, .int .i64 f.k, .int .i64 f.n] 30))
  have HR0 := Lib.hid (heap_alloc_new w (.cells #[.int .i64 f.c, .int .i64 f.s, .int .i64 f.k, .int .i64 f.n] 30))
  have HO := Lib.hid ho
  by_cases hk : 0 ≤ f.k ∧ f.k < 5
  · have q1 : decide (f.k < 0) = false := decide_eq_false (by omega)
    have q2 : decide ((5 : Int) ≤ f.k) = false := decide_eq_false (by omega)
    by_cases hn : 0 ≤ f.n ∧ f.n ≤ 2047
    · have q3 : decide (f.n < 0) = false := decide_eq_false (by omega)
      have q4 : decide ((2047 : Int) < f.n) = false := decide_eq_false (by omega)
      have hfok : f.ok = true := (f.ok_iff).2 ⟨hk.1, hk.2, hn.1, hn.2⟩
      have he : errC f = 0 := by unfold errC; rw [if_pos hk, if_pos hn]
      have ha : accN V f = V ++ [f] := by unfold accN; rw [if_pos hfok]
      unfold DCountPost
      rw [he, ha]
      unfold Fat.val
      obtain ⟨i0, hi0, hz0, hz1, hz2⟩ := info_parts fate_info
      have HI := Lib.hid hi0
      have HZ0 := Lib.hid hz0
      have HZ1 := Lib.hid hz1
      have HZ2 := Lib.hid hz2
      clear hi0 hz0 hz1 hz2 he ha ho
      obtain ⟨oa, cap, rfl, hfa⟩ := HO.out.fates
      have CA := Lib.hid (fun W hW => dall_any oa _ cap V rfl (by omega) hok W (hfa.below hW))
      have hbd := tal_bound (pk (-1)) V hok
      change 0 ≤ (sumT V (-1)).n ∧ (sumT V (-1)).n ≤ _ ∧ 0 ≤ (sumT V (-1)).c ∧ (sumT V (-1)).c ≤ _ ∧ 0 ≤ (sumT V (-1)).m ∧ (sumT V (-1)).m ≤ _ at hbd
      unfold Tal.val at CA
      generalize sumT V (-1) = T at CA hbd
      have hsf := dsum_f1
      have hw1 : IntKind.i64.wrap (T.c + f.n) = T.c + f.n := IntWalk.i64_in _ (by omega)
      have q5 : decide ((1099511627776 : Int) < T.c + f.n) = false := decide_eq_false (by omega)
      have HF := Lib.hid (show ∀ W, Below (w.heap.size + 1) (w.alloc (.cells #[.int .i64 f.c, .int .i64 f.s, .int .i64 f.k, .int .i64 f.n] 30)) W → (Below (w.heap.size + 1) (w.alloc (.cells #[.int .i64 f.c, .int .i64 f.s, .int .i64 f.k, .int .i64 f.n] 30)) W ∧ W.cell? ⟨w.heap.size, 0, none⟩ = some (.int .i64 f.c) ∧ W.cell? ⟨w.heap.size, 1, none⟩ = some (.int .i64 f.s) ∧ W.cell? ⟨w.heap.size, 2, none⟩ = some (.int .i64 f.k) ∧ W.cell? ⟨w.heap.size, 3, none⟩ = some (.int .i64 f.n)) from fun W hW => by
        have hr := (hW.block w.heap.size (by omega)).trans HR0.out
        refine ⟨hW, ?_, ?_, ?_, ?_⟩ <;> (rw [cell_of_row _ _ _ _ _ _ hr]; rfl))
      clear hbd hfok hn hk
      go_enter Tryd.func11, Tryd.ntmps11
      go_wp2_with fail
      generalize hW0 : w.alloc (.cells #[.int .i64 f.c, .int .i64 f.s, .int .i64 f.k, .int .i64 f.n] 30) = W0 at *
      have HRR := Lib.hid (show ∀ W, Below (w.heap.size + 1) W0 W → W.heap.size ≥ w.heap.size + 1 from fun W hW => by have := hW.size; rw [← hW0] at this; simp at this; omega)
      have H0 := Lib.hid (HF.out W0.drew (Below.refl _ _).drew)
      have HOW := Lib.hid (show ∀ W, Below w.heap.size w W → OwnT W B (.slice oa V.length cap) V from fun W hW => HO.out.step hW)
      go_region_held (fun W => Below (w.heap.size + 1) W0 W ∧ W.cell? ⟨w.heap.size, 0, none⟩ = some (.int .i64 f.c) ∧ W.cell? ⟨w.heap.size, 1, none⟩ = some (.int .i64 f.s) ∧ W.cell? ⟨w.heap.size, 2, none⟩ = some (.int .i64 f.k) ∧ W.cell? ⟨w.heap.size, 3, none⟩ = some (.int .i64 f.n)) (first | exact HBN | exact H0.out) (first
        | (go_at_call 15; refine (CA.out _ (HB0.out.trans (H0.out.1.mono (by omega)))).mono ?_; rintro e w1 ⟨rfl, hb⟩; have HBN := HF.out _ (H0.out.1.trans (hb.mono (HRR.out _ H0.out.1)))))
      go_wp2_with fail
      have HBW := Lib.hid (HB0.out.trans (HBN.1.mono (by omega)))
      have HBN2 := Lib.hid HBN
      have HB2 := HBW
      clear HBN
      have HBN3 := Lib.hid (HF.out _ HBN2.out.1.drew)
      have HN2 := Lib.hid (HRR.out _ HBN2.out.1)
      have HON := Lib.hid (show ∀ u ∈ f.cells, u.oneCell' = true from fun u hu => by unfold Fat.cells at hu; simp at hu; rcases hu with rfl | rfl | rfl | rfl <;> rfl)
      have HN3 := Lib.hid (show w.heap.size ≤ w1.heap.size from by have := HN2.out; omega)
      have HVO := Lib.hid (HOW.out w1.drew HB2.out.drew)
      have HLL := Lib.hid (show ∀ k n, k ≤ n → n + 1 ≤ n + 1 + k from fun _ _ _ => by omega)
      generalize hvx : (Value.slice oa V.length cap) = vx at HVO ⊢
      go_region_held3 (fun W => Below (w.heap.size + 1) W0 W ∧ W.cell? ⟨w.heap.size, 0, none⟩ = some (.int .i64 f.c) ∧ W.cell? ⟨w.heap.size, 1, none⟩ = some (.int .i64 f.s) ∧ W.cell? ⟨w.heap.size, 2, none⟩ = some (.int .i64 f.k) ∧ W.cell? ⟨w.heap.size, 3, none⟩ = some (.int .i64 f.n)) (first | exact HBN | exact HBNA | exact HBN3.out | exact HF.out _ (al_stepq (HRR.out _ HBN3.out.1) (by assumption)) | exact HF.out _ (al_stepq (HRR.out _ HBNA.1) HBNA)) (first
        | (refine step_append_row0 (by rfl) _ _ _ (by rfl) w.heap.size 30 i0 _ 4 32 Tryd.underlying22 HI.out HZ0.out HZ1.out HZ2.out rfl (by decide) (by rfl) B vx V.length (ftc V) (by rfl) (by first | exact HVO.out | exact World.ownsRow.alloc HVO.out _) (ftc_one V) (by unfold maxLen; omega) (by omega) (by first | exact HN3.out | exact Nat.le_trans HN3.out (by simp)) ?_; intro v3 w3 hown hgr hat; first | (have HB3 := Lib.hid ((HB2.out.drew.alloc HN3.out _).grown hgr (by have := HN3.out; simp; omega) (fun q hq => by cases hq)); have HBNA := HF.out _ ((HBN3.out.1.alloc (HRR.out _ HBN3.out.1) _).grown hgr (by have := HN2.out; simp; omega) (fun q hq => by cases hq)); have HNW := Lib.hid (show ∀ j u, f.cells[j]? = some u → w3.cell? ((⟨w1.heap.size, 0, none⟩ : Addr).add j) = some u from fun j u hj => by rw [addr_add0]; exact (cell_eq (a := ⟨w1.heap.size, j, none⟩) (hgr.block w1.heap.size (by simp) (by simp))).trans (by have := cells_new w1.drew f.cells 30 j u hj; rw [addr_add0] at this; exact this)); have HAT := Lib.hid hat; clear hat hgr) | (have HB3 := Lib.hid (HB2.out.drew.grown hgr HN3.out (fun q hq => by cases hq)); have HBNA := HF.out _ (HBN3.out.1.grown hgr HN2.out (fun q hq => by cases hq)); have HAT := Lib.hid hat; clear hat hgr))
        | (refine step_append_lies _ (by rfl) _ _ _ (by rfl) w.heap.size 30 i0 _ 4 32 Tryd.underlying22 HI.out HZ0.out HZ1.out HZ2.out rfl (by decide) v3 V.length (ftc V) (by rfl) hown ⟨w1.heap.size, 0, none⟩ 1 1 f.cells (by rfl) rfl HNW.out HON.out (by decide) (by unfold maxLen; omega) (by omega) HB3.out.size _ rfl ?_; intro g1 cp1 w4 hown2 hgr2 hat2 hlt2; have HO4 := Lib.hid (OwnT.app rfl hown2); have HB4 := Lib.hid (HB3.out.grown hgr2 HB3.out.size (fun q hq => (World.ownsRow.lt hown q hq).1)); have HBN := HF.out _ (HBNA.1.grown hgr2 (HRR.out _ HBNA.1) (fun q hq => by rcases HAT.out with h | h; (rw [h] at hq; cases hq); (rw [h] at hq; cases hq; have := HN2.out; first | exact this | (simp; omega)))))
        | (refine step_append_lies _ (by rfl) _ _ _ (by rfl) w.heap.size 30 i0 _ 4 32 Tryd.underlying22 HI.out HZ0.out HZ1.out HZ2.out rfl (by decide) v3 V.length (ftc V) (by rfl) (World.ownsRow.alloc hown _) ⟨w3.heap.size, 0, none⟩ 1 1 f.cells (by rfl) rfl (cells_new w3 f.cells _) HON.out (by decide) (by unfold maxLen; omega) (by omega) (by have := HB3.out.size; simp; omega) _ rfl ?_; intro g1 cp1 w4 hown2 hgr2 hat2 hlt2; have HO4 := Lib.hid (OwnT.app rfl hown2); have HB4 := Lib.hid ((HB3.out.alloc HB3.out.size _).grown hgr2 (by have := HB3.out.size; simp; omega) (fun q hq => (World.ownsRow.lt hown q hq).1)); have HBN := HF.out _ ((HBNA.1.alloc (HRR.out _ HBNA.1) _).grown hgr2 (by have := HRR.out _ HBNA.1; simp; omega) (fun q hq => by rcases HAT.out with h | h; (rw [h] at hq; cases hq); (rw [h] at hq; cases hq; have := HN2.out; first | exact this | (simp; omega))))))
      all_goals (
        go_wp2_with fail
        refine bodyPost_ret (v := .tuple #[.slice (some ⟨g1, 0, none⟩) (V.length + 1) cp1, .int .i64 0]) (by simp [results, Tryd.results11, go_sem]) rfl ⟨_, rfl, HO4.out.mono hB, HB4.out⟩)
    · have hfok : f.ok = false := by
        cases hx : f.ok with
        | false => rfl
        | true => have := (f.ok_iff).1 hx; exact absurd ⟨this.2.2.1, this.2.2.2⟩ hn
      have he : errC f = 8 := by unfold errC; rw [if_pos hk, if_neg hn]
      have ha : accN V f = V := by unfold accN; rw [hfok]; rfl
      unfold DCountPost
      rw [he, ha]
      unfold Fat.val
      clear he ha
      by_cases hn0 : f.n < 0
      · have q3 : decide (f.n < 0) = true := decide_eq_true hn0
        go_enter Tryd.func11, Tryd.ntmps11
        go_wp2_with fail
        refine bodyPost_ret (v := .tuple #[v, .int .i64 8]) (by simp [results, Tryd.results11, go_sem]) rfl ⟨_, rfl, HO.out.step HB0.out, HB0.out⟩
      · have q3 : decide (f.n < 0) = false := decide_eq_false hn0
        have q4 : decide ((2047 : Int) < f.n) = true := decide_eq_true (by omega)
        go_enter Tryd.func11, Tryd.ntmps11
        go_wp2_with fail
        refine bodyPost_ret (v := .tuple #[v, .int .i64 8]) (by simp [results, Tryd.results11, go_sem]) rfl ⟨_, rfl, HO.out.step HB0.out, HB0.out⟩
  · have hfok : f.ok = false := by
      cases hx : f.ok with
      | false => rfl
      | true => have := (f.ok_iff).1 hx; exact absurd ⟨this.1, this.2.1⟩ hk
    have he : errC f = 11 := by unfold errC; rw [if_neg hk]
    have ha : accN V f = V := by unfold accN; rw [hfok]; rfl
    unfold DCountPost
    rw [he, ha]
    unfold Fat.val
    clear he ha
    by_cases hk0 : f.k < 0
    · have q1 : decide (f.k < 0) = true := decide_eq_true hk0
      go_enter Tryd.func11, Tryd.ntmps11
      go_wp2_with fail
      refine bodyPost_ret (v := .tuple #[v, .int .i64 11]) (by simp [results, Tryd.results11, go_sem]) rfl ⟨_, rfl, HO.out.step HB0.out, HB0.out⟩
    · have q1 : decide (f.k < 0) = false := decide_eq_false hk0
      have q2 : decide ((5 : Int) ≤ f.k) = true := decide_eq_true (by omega)
      go_enter Tryd.func11, Tryd.ntmps11
      go_wp2_with fail
      refine bodyPost_ret (v := .tuple #[v, .int .i64 11]) (by simp [results, Tryd.results11, go_sem]) rfl ⟨_, rfl, HO.out.step HB0.out, HB0.out⟩
#print axioms dcount_any
end Go.Proofs.YtbpcknjobbjmpaaDoor
