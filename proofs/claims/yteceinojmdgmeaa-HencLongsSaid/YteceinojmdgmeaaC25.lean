/- RepA · RepC · HdC: joined by a program, for a claim has at most 60 files. -/
import Derived.Test.YteceinojmdgmeaaC24
import Derived.Test.YteceinojmdgmeaaC22
import Derived.Laws.ResultCell
/- repr's small functions: form, texts, extra, Check, kind; prefint.Size. -/
namespace Go.Proofs.Yteceinojmdgmeaa
open Go.RowKit
set_option linter.unusedVariables false
set_option linter.unusedSimpArgs false

def formF : Nat → Nat
  | 0 => 128
  | 1 => 64
  | 3 => 16
  | 4 => 32
  | _ => 0
def formB : Nat → Nat
  | 0 => 7
  | 1 => 6
  | 4 => 5
  | _ => 4
theorem form_k4 (k : Nat) (hk : k ≤ 4) : formF k < 256 ∧ K4 (formB k) := by
  rcases (show k = 0 ∨ k = 1 ∨ k = 2 ∨ k = 3 ∨ k = 4 from by omega) with rfl | rfl | rfl | rfl | rfl <;> (unfold K4; decide)
theorem form_any (k : Nat) (hk : k ≤ 4) (w : World) : Calls Try.prog 49 #[.int .u8 (k : Int)] w fun e w' => e = .returned (.tuple #[.int .u8 ((formF k : Nat) : Int), .int .i64 ((formB k : Nat) : Int)]) ∧ w' = w := by
  rcases (show k = 0 ∨ k = 1 ∨ k = 2 ∨ k = 3 ∨ k = 4 from by omega) with rfl | rfl | rfl | rfl | rfl
  · go_enter Try.func49, Try.ntmps49
    go_wp2_with fail
    exact bodyPost_ret (v := .tuple #[.int .u8 128, .int .i64 7]) (by simp [results, Try.results49, go_sem]) rfl ⟨rfl, rfl⟩
  · go_enter Try.func49, Try.ntmps49
    go_wp2_with fail
    exact bodyPost_ret (v := .tuple #[.int .u8 64, .int .i64 6]) (by simp [results, Try.results49, go_sem]) rfl ⟨rfl, rfl⟩
  · go_enter Try.func49, Try.ntmps49
    go_wp2_with fail
    exact bodyPost_ret (v := .tuple #[.int .u8 0, .int .i64 4]) (by simp [results, Try.results49, go_sem]) rfl ⟨rfl, rfl⟩
  · go_enter Try.func49, Try.ntmps49
    go_wp2_with fail
    exact bodyPost_ret (v := .tuple #[.int .u8 16, .int .i64 4]) (by simp [results, Try.results49, go_sem]) rfl ⟨rfl, rfl⟩
  · go_enter Try.func49, Try.ntmps49
    go_wp2_with fail
    exact bodyPost_ret (v := .tuple #[.int .u8 32, .int .i64 5]) (by simp [results, Try.results49, go_sem]) rfl ⟨rfl, rfl⟩
/-- Has a kind texts? -/
def litK (k : Nat) : Bool := decide (1 ≤ k) && decide (k ≤ 3)
theorem texts_any (k : Nat) (hk : k < 256) (w : World) : Calls Try.prog 51 #[.int .u8 (k : Int)] w fun e w' => e = .returned (.bool (litK k)) ∧ w' = w := by
  by_cases h1 : k = 1
  · subst h1
    go_enter Try.func51, Try.ntmps51
    go_wp2_with fail
    go_ret
    exact ⟨rfl, rfl⟩
  by_cases h2 : k = 2
  · subst h2
    go_enter Try.func51, Try.ntmps51
    go_wp2_with fail
    go_ret
    exact ⟨rfl, rfl⟩
  by_cases h3 : k = 3
  · subst h3
    go_enter Try.func51, Try.ntmps51
    go_wp2_with fail
    go_ret
    exact ⟨rfl, rfl⟩
  have q1 : ((k : Int) == 1) = false := by simp; omega
  have q2 : ((k : Int) == 2) = false := by simp; omega
  have q3 : ((k : Int) == 3) = false := by simp; omega
  have HL := Lib.hid (show litK k = false from by
    unfold litK
    rw [Bool.and_eq_false_iff]
    by_cases h : 1 ≤ k
    · exact .inr (decide_eq_false (by omega))
    · exact .inl (decide_eq_false h))
  clear h1 h2 h3
  go_enter Try.func51, Try.ntmps51
  go_wp2_with fail
  go_ret
  exact ⟨by rw [HL.out]; rfl, rfl⟩
theorem psize_any (n : Nat) (hn : n ≤ 268435455) (w : World) : Calls Try.prog 77 #[.int .i64 7, .int .i64 (n : Int)] w fun e w' => e = .returned (.int .i64 (((putN 0 7 n).length : Nat) : Int)) ∧ Below w.heap.size w w' := by
  have HP := Lib.hid (show ∀ W, Calls Try.prog 50 #[.int .u8 0, .int .i64 7, .int .i64 (n : Int)] W (PutPost 0 7 n W) from fun W => put_any 0 7 n (by omega) (by unfold K4; decide) hn W)
  go_enter Try.func77, Try.ntmps77
  go_wp2_with fail
  refine (HP.out _).mono ?_
  rintro e w1 ⟨v, rfl, ho, hb⟩
  have HB := Lib.hid hb
  obtain ⟨oa, cap, rfl, _⟩ := ownB_bytes ho
  clear hb ho
  go_wp2_with fail
  go_ret
  exact ⟨rfl, HB.out⟩
end Go.Proofs.Yteceinojmdgmeaa


/- repr.Check, repr.kind. -/
namespace Go.Proofs.Yteceinojmdgmeaa
open Go.RowKit
set_option linter.unusedVariables false
set_option linter.unusedSimpArgs false

structure Itm where
  kind : Nat
  index : Int
  name : ByteArray
  value : ByteArray
def Itm.vals (x : Itm) : Array Value := #[.int .u8 (x.kind : Int), .int .i64 x.index, .string x.name, .string x.value]
/-- Has an item what its kind has not? -/
def extraI (x : Itm) : Bool := if litK x.kind then decide (0 < x.index) && !x.name.toList.isEmpty else !x.name.toList.isEmpty || !x.value.toList.isEmpty
/-- The error of an item, by number. -/
def chkI (x : Itm) : Nat :=
  if 4 < x.kind then 11 else if x.index < 0 ∨ 268435455 < x.index ∨ (x.kind = 0 ∧ x.index = 0) then 8 else if extraI x then 4 else if 4096 < x.name.size ∨ 4096 < x.value.size then 5 else 0
set_option maxRecDepth 100000 in
theorem extra_any (k : Nat) (i : Int) (nm vl : ByteArray) (hk : k < 256) (w : World) : Calls Try.prog 64 #[.agg #[.int .u8 (k : Int), .int .i64 i, .string nm, .string vl]] w fun e w' => e = .returned (.bool (extraI ⟨k, i, nm, vl⟩)) ∧ Below w.heap.size w w' := by
  have HT := Lib.hid (fun W => texts_any k hk W)
  have HB := Lib.hid ((Below.refl w.heap.size w).alloc (Nat.le_refl _) (.cells #[.int .u8 (k : Int), .int .i64 i, .string nm, .string vl] 49))
  have HX := Lib.hid (show extraI ⟨k, i, nm, vl⟩ = if litK k then decide (0 < i) && !nm.toList.isEmpty else !nm.toList.isEmpty || !vl.toList.isEmpty from rfl)
  go_enter Try.func64, Try.ntmps64
  go_wp2_with fail
  refine (HT.out _).mono ?_
  rintro e w1 ⟨rfl, hw⟩
  subst hw
  cases hl : litK k
  · rw [hl] at HX
    cases hn : nm.toList.isEmpty
    · rw [hn] at HX
      go_wp2_with fail
      go_ret
      exact ⟨by rw [HX.out]; rfl, HB.out⟩
    · rw [hn] at HX
      go_wp2_with fail
      go_ret
      exact ⟨by rw [HX.out]; rfl, HB.out⟩
  · rw [hl] at HX
    by_cases hi : 0 < i
    · have hb : decide (0 < i) = true := decide_eq_true hi
      rw [hb] at HX
      go_wp2_with fail
      go_ret
      exact ⟨by rw [HX.out]; rfl, HB.out⟩
    · have hb : decide (0 < i) = false := decide_eq_false hi
      rw [hb] at HX
      go_wp2_with fail
      go_ret
      exact ⟨by rw [HX.out]; rfl, HB.out⟩
/-- An item in a block. -/
def IRow (W : World) (q : Nat) (k : Nat) (i : Int) (nm vl : ByteArray) : Prop := W.heap[q]? = some (.cells #[.int .u8 (k : Int), .int .i64 i, .string nm, .string vl] 49 (0, 0))
theorem IRow.c0 {W : World} {q k : Nat} {i : Int} {nm vl : ByteArray} (h : IRow W q k i nm vl) : W.cell? ⟨q, 0, none⟩ = some (.int .u8 (k : Int)) := cell_of_row _ _ _ _ _ _ h
theorem IRow.c1 {W : World} {q k : Nat} {i : Int} {nm vl : ByteArray} (h : IRow W q k i nm vl) : W.cell? ⟨q, 1, none⟩ = some (.int .i64 i) := cell_of_row _ _ _ _ _ _ h
theorem IRow.c2 {W : World} {q k : Nat} {i : Int} {nm vl : ByteArray} (h : IRow W q k i nm vl) : W.cell? ⟨q, 2, none⟩ = some (.string nm) := cell_of_row _ _ _ _ _ _ h
theorem IRow.c3 {W : World} {q k : Nat} {i : Int} {nm vl : ByteArray} (h : IRow W q k i nm vl) : W.cell? ⟨q, 3, none⟩ = some (.string vl) := cell_of_row _ _ _ _ _ _ h
theorem IRow.z {W : World} {q k : Nat} {i : Int} {nm vl : ByteArray} (h : IRow W q k i nm vl) (j : Nat) : W.frozen? ⟨q, j, none⟩ = false := frozen_of_row _ _ _ _ _ h
theorem IRow.lt {W : World} {q k : Nat} {i : Int} {nm vl : ByteArray} (h : IRow W q k i nm vl) : q < W.heap.size := World.block_lt_of_cell? W ⟨q, 0, none⟩ h.c0
theorem IRow.step {W W' : World} {q k : Nat} {i : Int} {nm vl : ByteArray} (h : IRow W q k i nm vl) (hb : Below W.heap.size W W') : IRow W' q k i nm vl := (hb.block q h.lt).trans h
set_option maxRecDepth 100000 in
set_option maxHeartbeats 1000000 in
theorem rcheck_any (k : Nat) (i : Int) (nm vl : ByteArray) (hk : k < 256) (w : World) : Calls Try.prog 38 #[.agg #[.int .u8 (k : Int), .int .i64 i, .string nm, .string vl]] w fun e w' => e = .returned (.int .i64 ((chkI ⟨k, i, nm, vl⟩ : Nat) : Int)) ∧ Below w.heap.size w w' := by
  have HEX := Lib.hid (fun W => extra_any k i nm vl hk W)
  have HB := Lib.hid ((Below.refl w.heap.size w).alloc (Nat.le_refl _) (.cells #[.int .u8 (k : Int), .int .i64 i, .string nm, .string vl] 49))
  have HR := Lib.hid (show IRow _ _ k i nm vl from heap_alloc_new w (.cells #[.int .u8 (k : Int), .int .i64 i, .string nm, .string vl] 49))
  by_cases h4 : 4 < k
  · have HC := Lib.hid (show chkI ⟨k, i, nm, vl⟩ = 11 from if_pos h4)
    have q4 : decide ((4 : Int) < (k : Int)) = true := decide_eq_true (by omega)
    go_enter Try.func38, Try.ntmps38
    go_wp2_with fail
    go_ret
    exact ⟨by rw [HC.out]; rfl, HB.out⟩
  have q4 : decide ((4 : Int) < (k : Int)) = false := decide_eq_false (by omega)
  by_cases hr : i < 0 ∨ 268435455 < i ∨ (k = 0 ∧ i = 0)
  · have HC := Lib.hid (show chkI ⟨k, i, nm, vl⟩ = 8 from (if_neg h4).trans (if_pos hr))
    clear h4
    rcases hr with h | h | ⟨rfl, rfl⟩
    · have q5 : decide (i < 0) = true := decide_eq_true h
      go_enter Try.func38, Try.ntmps38
      go_wp2_with fail
      go_ret
      exact ⟨by rw [HC.out]; rfl, HB.out⟩
    · have q5 : decide (i < 0) = false := decide_eq_false (by omega)
      have q6 : decide ((268435455 : Int) < i) = true := decide_eq_true h
      go_enter Try.func38, Try.ntmps38
      go_wp2_with fail
      go_ret
      exact ⟨by rw [HC.out]; rfl, HB.out⟩
    · go_enter Try.func38, Try.ntmps38
      go_wp2_with fail
      go_ret
      exact ⟨by rw [HC.out]; rfl, HB.out⟩
  have HC := Lib.hid (show chkI ⟨k, i, nm, vl⟩ = if extraI ⟨k, i, nm, vl⟩ then 4 else if 4096 < nm.size ∨ 4096 < vl.size then 5 else 0 from (if_neg h4).trans (if_neg hr))
  have q5 : decide (i < 0) = false := decide_eq_false (by omega)
  have q6 : decide ((268435455 : Int) < i) = false := decide_eq_false (by omega)
  have hki : ((k : Int) == 0) = true ∧ (i == 0) = false ∨ ((k : Int) == 0) = false := by
    by_cases hk0 : k = 0
    · exact .inl ⟨by simp [hk0], by simp; omega⟩
    · exact .inr (by simp; omega)
  clear h4 hr
  have rest : ∀ (P : Prop), P → P := fun _ h => h
  rcases hki with ⟨q7, q8⟩ | q7
  all_goals
    go_enter Try.func38, Try.ntmps38
    go_upto_region 7 with fail
    generalize w.alloc (.cells #[.int .u8 (k : Int), .int .i64 i, .string nm, .string vl] 49) = w1 at HB HR ⊢
    have c0 := HR.out.c0
    have c1 := HR.out.c1
    have c2 := HR.out.c2
    have c3 := HR.out.c3
    go_wp2_with fail
    refine (HEX.out _).mono ?_
    rintro e w2 ⟨rfl, hb⟩
    have HB2 := Lib.hid (HB.out.trans (hb.mono HB.out.size))
    have HR2 := Lib.hid (HR.out.step hb)
    clear hb c0 c1 c2 c3 HB HR
    have c2 := HR2.out.c2
    have c3 := HR2.out.c3
    cases hx : extraI ⟨k, i, nm, vl⟩
    · rw [hx] at HC
      by_cases hn : 4096 < nm.size
      · have q9 : decide ((4096 : Int) < (nm.size : Int)) = true := decide_eq_true (by omega)
        have HC3 := Lib.hid (show chkI ⟨k, i, nm, vl⟩ = 5 from HC.out.trans (by simp [hn]))
        go_wp2_with fail
        go_ret
        exact ⟨by rw [HC3.out]; rfl, HB2.out⟩
      · have q9 : decide ((4096 : Int) < (nm.size : Int)) = false := decide_eq_false (by omega)
        by_cases hv : 4096 < vl.size
        · have q10 : decide ((4096 : Int) < (vl.size : Int)) = true := decide_eq_true (by omega)
          have HC3 := Lib.hid (show chkI ⟨k, i, nm, vl⟩ = 5 from HC.out.trans (by simp [hv]))
          go_wp2_with fail
          go_ret
          exact ⟨by rw [HC3.out]; rfl, HB2.out⟩
        · have q10 : decide ((4096 : Int) < (vl.size : Int)) = false := decide_eq_false (by omega)
          have HC3 := Lib.hid (show chkI ⟨k, i, nm, vl⟩ = 0 from HC.out.trans (by simp; omega))
          go_wp2_with fail
          go_ret
          exact ⟨by rw [HC3.out]; rfl, HB2.out⟩
    · rw [hx] at HC
      have HC3 := Lib.hid (show chkI ⟨k, i, nm, vl⟩ = 4 from HC.out)
      go_wp2_with fail
      go_ret
      exact ⟨by rw [HC3.out]; rfl, HB2.out⟩
end Go.Proofs.Yteceinojmdgmeaa


/- hdec: named; the laws of results that are structs. -/
namespace Go.Proofs.Yteceinojmdgmeaa
open Go.RowKit
set_option linter.unusedVariables false
set_option linter.unusedSimpArgs false

theorem res_cell2 {P : Program} {fn : Func} {p u : Tmp} {ty : TypeId} (h : fn.results = #[.cell p ty, .tmp u]) (tmps : Array Value) (w : World) (g : Nat) (t : TypeId) (cs : Array Value) (fr : Nat × Nat) (d : TypeDesc)
    (hp : tmps.getD p undef = .pointer (some ⟨g, 0, none⟩)) (hg : w.heap[g]? = some (.cells cs t fr))
    (hu : P.underlying ty = some d) (hd : (match d with | .struct _ | .array _ _ => true | _ => false) = true) (hi : (P.info? ty).map (·.size) = some cs.size) (x : Value) (hx : tmps.getD u undef = x) :
    (results fn tmps).run P w = .ok (.tuple #[.agg cs, x]) w := by
  rw [results_cell_tmp h]
  have hp' : tmps[p]?.getD undef = .pointer (some ⟨g, 0, none⟩) := by simpa using hp
  have hx' : tmps[u]?.getD undef = x := by simpa using hx
  simp [hp', hx', asAddr, run_loadVar_row w g t ty cs fr d hg hu hd hi, Result.andThen]
theorem res_cell22 {P : Program} {fn : Func} {p q u v : Tmp} {ty ty2 : TypeId} (h : fn.results = #[.cell p ty, .cell q ty2, .tmp u, .tmp v]) (tmps : Array Value) (w : World) (g g2 : Nat) (t t2 : TypeId) (cs cs2 : Array Value) (fr fr2 : Nat × Nat) (d d2 : TypeDesc)
    (hp : tmps.getD p undef = .pointer (some ⟨g, 0, none⟩)) (hg : w.heap[g]? = some (.cells cs t fr))
    (hu : P.underlying ty = some d) (hd : (match d with | .struct _ | .array _ _ => true | _ => false) = true) (hi : (P.info? ty).map (·.size) = some cs.size)
    (hq : tmps.getD q undef = .pointer (some ⟨g2, 0, none⟩)) (hg2 : w.heap[g2]? = some (.cells cs2 t2 fr2))
    (hu2 : P.underlying ty2 = some d2) (hd2 : (match d2 with | .struct _ | .array _ _ => true | _ => false) = true) (hi2 : (P.info? ty2).map (·.size) = some cs2.size)
    (x y : Value) (hx : tmps.getD u undef = x) (hy : tmps.getD v undef = y) :
    (results fn tmps).run P w = .ok (.tuple #[.agg cs, .agg cs2, x, y]) w := by
  have hp' : tmps[p]?.getD undef = .pointer (some ⟨g, 0, none⟩) := by simpa using hp
  have hq' : tmps[q]?.getD undef = .pointer (some ⟨g2, 0, none⟩) := by simpa using hq
  have hx' : tmps[u]?.getD undef = x := by simpa using hx
  have hy' : tmps[v]?.getD undef = y := by simpa using hy
  simp [results, h, hp', hq', hx', hy', asAddr, Sem.run_bind, run_loadVar_row w g t ty cs fr d hg hu hd hi, run_loadVar_row w g2 t2 ty2 cs2 fr2 d2 hg2 hu2 hd2 hi2, Result.andThen]
theorem below_row {B : Nat} {a w : World} (h : Below B a w) {g : Nat} (hg : B ≤ g) (cs : Array Value) : Below B a (w.setRow g cs) :=
  h.trans ⟨rfl, rfl, rfl, by simp [World.setRow], fun k hk => by
    show (w.heap.modify g _)[k]? = _
    rw [Array.getElem?_modify, if_neg (by omega)]⟩
/-- The field that an item names. -/
def hNamed (L : List Fld) (x : Itm) : Fld × Bool := if x.index = 0 then (⟨x.name, ⟨#[]⟩, false⟩, true) else atF L x.index
def NamedPost (L : List Fld) (x : Itm) (w : World) (e : Ending) (w' : World) : Prop := e = .returned (.tuple #[.agg #[.string (hNamed L x).1.name, .string (hNamed L x).1.value, .bool (hNamed L x).1.never], .bool (hNamed L x).2]) ∧ Below w.heap.size w w'
abbrev zF : Array Value := #[.string ⟨#[]⟩, .string ⟨#[]⟩, .bool false]
set_option maxRecDepth 100000 in
set_option maxHeartbeats 4000000 in
theorem named_any (mx cp : Int) (oa : Option Addr) (n cap : Nat) (L : List Fld) (hn : L.length = n) (k : Nat) (i : Int) (nm vl : ByteArray) (hi : (Lit.int .i64 i).wf = true) (w : World) (hf : FieldsN w oa L) :
    Calls Try.prog 65 #[.agg #[.int .i64 mx, .slice oa n cap, .int .i64 cp], .agg #[.int .u8 (k : Int), .int .i64 i, .string nm, .string vl]] w (NamedPost L ⟨k, i, nm, vl⟩ w) := by
  have HC := Lib.hid (fun W (hW : Below w.heap.size w W) => dAt_any mx oa n cap L hn i hi W (hf.below hW))
  have b1 := (Below.refl w.heap.size w).alloc (Nat.le_refl _) (.cells #[.int .i64 mx, .slice oa n cap, .int .i64 cp] 45)
  have b2 := b1.alloc b1.size (.cells #[.int .u8 (k : Int), .int .i64 i, .string nm, .string vl] 49)
  have HB := Lib.hid (b2.alloc b2.size (.cells zF 25))
  have HR := Lib.hid (((HRow.new w mx cp (.slice oa n cap)).step ((Below.refl _ _).alloc (Nat.le_refl _) (.cells #[.int .u8 (k : Int), .int .i64 i, .string nm, .string vl] 49))).step ((Below.refl _ _).alloc (Nat.le_refl _) (.cells zF 25)))
  have HX : Hid (IRow (((w.alloc (.cells #[.int .i64 mx, .slice oa n cap, .int .i64 cp] 45)).alloc (.cells #[.int .u8 (k : Int), .int .i64 i, .string nm, .string vl] 49)).alloc (.cells zF 25)) (w.heap.size + 1) k i nm vl) := Lib.hid (by
    have h1 : IRow ((w.alloc (.cells #[.int .i64 mx, .slice oa n cap, .int .i64 cp] 45)).alloc (.cells #[.int .u8 (k : Int), .int .i64 i, .string nm, .string vl] 49)) (w.heap.size + 1) k i nm vl := by
      have := heap_alloc_new (w.alloc (.cells #[.int .i64 mx, .slice oa n cap, .int .i64 cp] 45)) (.cells #[.int .u8 (k : Int), .int .i64 i, .string nm, .string vl] 49)
      simpa [IRow] using this
    exact h1.step ((Below.refl _ _).alloc (Nat.le_refl _) _))
  have HZ : Hid ((((w.alloc (.cells #[.int .i64 mx, .slice oa n cap, .int .i64 cp] 45)).alloc (.cells #[.int .u8 (k : Int), .int .i64 i, .string nm, .string vl] 49)).alloc (.cells zF 25)).heap[w.heap.size + 2]? = some (.cells zF 25 (0, 0))) := Lib.hid (by
    have := heap_alloc_new ((w.alloc (.cells #[.int .i64 mx, .slice oa n cap, .int .i64 cp] 45)).alloc (.cells #[.int .u8 (k : Int), .int .i64 i, .string nm, .string vl] 49)) (.cells zF 25)
    simpa using this)
  unfold NamedPost
  obtain ⟨R, hR⟩ : ∃ R, hNamed L ⟨k, i, nm, vl⟩ = R := ⟨_, rfl⟩
  have HN : Hid (R = if i = 0 then (⟨nm, ⟨#[]⟩, false⟩, true) else atF L i) := Lib.hid hR.symm
  rw [hR]
  clear hR
  obtain ⟨⟨a1, a2, a3⟩, a4⟩ := R
  simp only
  clear b1 b2 hf hn
  go_enter Try.func65, Try.ntmps65
  go_upto_region 1 with fail
  have hz3 : w.heap.size + 2 < (((w.alloc (.cells #[.int .i64 mx, .slice oa n cap, .int .i64 cp] 45)).alloc (.cells #[.int .u8 (k : Int), .int .i64 i, .string nm, .string vl] 49)).alloc (.cells zF 25)).heap.size := by simp
  have HLT := Lib.hid hz3
  clear hz3
  generalize (((w.alloc (.cells #[.int .i64 mx, .slice oa n cap, .int .i64 cp] 45)).alloc (.cells #[.int .u8 (k : Int), .int .i64 i, .string nm, .string vl] 49)).alloc (.cells zF 25)) = w1 at HB HR HX HZ HLT ⊢
  have c0 := HR.out.c0
  have c1 := HR.out.c1
  have x1 := HX.out.c1
  have x2 := HX.out.c2
  by_cases h0 : i = 0
  · have q : (i == 0) = true := by rw [h0]; rfl
    obtain ⟨rfl, rfl, rfl, rfl⟩ : a1 = nm ∧ a2 = ⟨#[]⟩ ∧ a3 = false ∧ a4 = true := by
      have := HN.out.trans (if_pos h0)
      simp only [Prod.mk.injEq, Fld.mk.injEq] at this
      exact ⟨this.1.1, this.1.2.1, this.1.2.2, this.2⟩
    go_wp2_with (first | (refine wpList_store_row rfl _ _ _ rfl (w.heap.size + 2) #[.string a1, .string ⟨#[]⟩, .bool false] rfl rfl _ _ HZ.out (by kernel_rfl) rfl (by kernel_rfl) ?_))
    exact bodyPost_ret (v := .tuple #[.agg #[.string a1, .string ⟨#[]⟩, .bool false], .bool true]) (res_cell2 rfl _ _ (w.heap.size + 2) _ _ (0, 0) _ rfl (setRow_heap _ _ _ _ _ _ HZ.out) Try.underlying25 rfl (by kernel_rfl) _ rfl) rfl ⟨rfl, below_row HB.out (by omega) _⟩
  · have q : (i == 0) = false := beq_eq_false_iff_ne.2 h0
    have HV := Lib.hid (HN.out.trans (if_neg h0))
    unfold AtPost at HC
    rw [← HV.out] at HC
    simp only at HC
    go_wp2_with (first | (go_at_call 85; refine (HC.out _ HB.out).mono ?_; rintro e w2 ⟨rfl, hb⟩; have HB2 := Lib.hid (bs_hd HB.out hb); have HZ2 := Lib.hid ((hb.block _ HLT.out).trans HZ.out); clear hb) | (refine wpList_store_row rfl _ _ _ rfl (w.heap.size + 2) #[.string a1, .string a2, .bool a3] rfl rfl _ _ HZ2.out (by kernel_rfl) rfl (by kernel_rfl) ?_))
    exact bodyPost_ret (v := .tuple #[.agg #[.string a1, .string a2, .bool a3], .bool a4]) (res_cell2 rfl _ _ (w.heap.size + 2) _ _ (0, 0) _ rfl (setRow_heap _ _ _ _ _ _ HZ2.out) Try.underlying25 rfl (by kernel_rfl) _ rfl) rfl ⟨rfl, below_row HB2.out (by omega) _⟩
end Go.Proofs.Yteceinojmdgmeaa

