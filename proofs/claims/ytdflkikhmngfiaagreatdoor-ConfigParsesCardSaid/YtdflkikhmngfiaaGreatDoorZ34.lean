/- A line is taken, in plain Lean. -/
import Derived.Test.YtdflkikhmngfiaaGreatDoorZ32
import Derived.Test.YtdflkikhmngfiaaGreatDoorZ33
namespace Go.Proofs.YtdflkikhmngfiaaGreatDoor
open Go.RowKit
set_option linter.unusedVariables false
set_option linter.unusedSimpArgs false
set_option linter.unusedSectionVars false
set_option maxRecDepth 10000

def keyIx (k : ByteArray) : Option Nat := (List.range 15).find? fun i => decide (bytesOf (keyAt i) = k)
def inL (k : ByteArray) (L : List ByteArray) : Bool := L.any fun x => decide (x = k)
theorem inL_iff {k : ByteArray} {L : List ByteArray} : inL k L = true ↔ k ∈ L := by
  unfold inL
  rw [List.any_eq_true]
  exact ⟨fun ⟨x, h1, h2⟩ => of_decide_eq_true h2 ▸ h1, fun h => ⟨k, h, decide_eq_true rfl⟩⟩
/-- What a line does to the making and to the keys that stood ahead; its error. -/
def lineF (c : Nat → PV) (L : List ByteArray) (s : ByteArray) : Int × (Nat → PV) × List ByteArray :=
  if 200 < s.size then (5, c, L) else match wordsB s with
    | [] => (0, c, L)
    | [k, v] => match keyIx k with
      | none => (11, c, L)
      | some i => if inL k L = true then (12, c, L) else if numOk (LL v) = true then (0, fun j => if j = i then .int (numI (LL v)) else c j, L ++ [k]) else (8, c, L)
    | _ => (4, c, L)
/-- A field's place behind a line. -/
def vx (j : Nat) : Nat := match j with
  | 0 => 19
  | j + 1 => 21 + j
def LnOut (e : Int) (c : Nat → PV) (L : List ByteArray) (out : Outc) : Prop := ∃ v : Env, out = .inl (0, v) ∧ v 18 = .int e ∧ v 20 = .lst (L.map PV.str) ∧ ∀ j, j < 15 → v (vx j) = c j
theorem all15 {P : Nat → Prop} (h0 : P 0) (h1 : P 1) (h2 : P 2) (h3 : P 3) (h4 : P 4) (h5 : P 5) (h6 : P 6) (h7 : P 7) (h8 : P 8) (h9 : P 9) (h10 : P 10) (h11 : P 11) (h12 : P 12) (h13 : P 13) (h14 : P 14) : ∀ j, j < 15 → P j := by
  intro j hj
  have : j = 0 ∨ j = 1 ∨ j = 2 ∨ j = 3 ∨ j = 4 ∨ j = 5 ∨ j = 6 ∨ j = 7 ∨ j = 8 ∨ j = 9 ∨ j = 10 ∨ j = 11 ∨ j = 12 ∨ j = 13 ∨ j = 14 := by omega
  rcases this with rfl | rfl | rfl | rfl | rfl | rfl | rfl | rfl | rfl | rfl | rfl | rfl | rfl | rfl | rfl <;> assumption
def mW : Xp := .app 3 (.cons (.var 0) (.nil))
def mK : Xp := .get mW (.int 0) 1 0
def mV : Xp := .get mW (.int 1) 1 0
/-- Besides, the numbers of words and numbers. -/
structure MlS (S : Sy) : Prop extends CfS S where
  num : ∀ a, S.fn 4 [a] = .tup [.int (numI (LL a.s)), .bool (numOk (LL a.s))]
  numpre : ∀ a, S.fn 34 [a] = .bool (decide (a.s.size ≤ maxLen))
section
variable [S : Sy]
def mσ : List Xp := [.var 0, .var 1, .var 2, .var 3, .var 4, .var 5, .var 6, .var 7, .var 8, .var 9, .var 10, .var 11, .var 12, .var 13, .var 14, .var 15, .var 16]
theorem mget {env : Env} {W : List ByteArray} (hW : @Xp.den (S.at env) mW = .lst (W.map PV.str)) (i : Nat) (h : i < W.length) : @Xp.den (S.at env) (.get mW (.int (i : Int)) 1 0) = .str W[i] := by
  show (((@Xp.den (S.at env) mW).l.getD ((i : Int)).toNat default).row 1).getD 0 default = _
  rw [hW]
  show (W.map PV.str).getD i default = _
  rw [List.getD_eq_getElem?_getD, List.getElem?_map, List.getElem?_eq_getElem h]
  rfl
theorem minb {env : Env} {W : List ByteArray} (hW : @Xp.den (S.at env) mW = .lst (W.map PV.str)) (i : Nat) (h : i < W.length) : @Xp.den (S.at env) (.inb (.int (i : Int)) (.lenl mW)) = .bool true := by
  show PV.bool (decide ((0 : Int) ≤ (i : Int)) && decide ((i : Int) < ((@Xp.den (S.at env) mW).l.length : Int))) = _
  rw [hW]
  have : ((PV.lst (W.map PV.str)).l.length : Int) = (W.length : Int) := by show ((W.map PV.str).length : Int) = _; rw [List.length_map]
  rw [this, inb_ok h]
theorem mlen {env : Env} {W : List ByteArray} (hW : @Xp.den (S.at env) mW = .lst (W.map PV.str)) (n : Int) : @Xp.den (S.at env) (.cmpi .eql (.lenl mW) (.int n)) = .bool (decide ((W.length : Int) = n)) := by
  show PV.bool (decide (((@Xp.den (S.at env) mW).l.length : Int) = n)) = _
  rw [hW]
  have : ((PV.lst (W.map PV.str)).l.length : Int) = (W.length : Int) := by show ((W.map PV.str).length : Int) = _; rw [List.length_map]
  rw [this]
theorem msize {env : Env} (n : Int) : @Xp.den (S.at env) (.cmpi .lss (.int n) (.lens (.var 0))) = .bool (decide (n < ((env 0).s.size : Int))) := rfl
theorem meq {env : Env} {W : List ByteArray} (hW : @Xp.den (S.at env) mW = .lst (W.map PV.str)) (h : 0 < W.length) (j : Nat) : @Xp.den (S.at env) (.eqs (.str (keyAt j)) mK) = .bool (decide (bytesOf (keyAt j) = W[0])) := by
  show PV.bool (decide (bytesOf (keyAt j) = (@Xp.den (S.at env) (.get mW (.int ((0 : Nat) : Int)) 1 0)).s)) = _
  rw [mget hW 0 h]
  rfl
/-- A round over the keys that stood ahead: what is asked. -/
theorem mlss {env : Env} {L : List ByteArray} (h16 : env 16 = .lst (L.map PV.str)) (i : Nat) (h17 : env 17 = .int i) : @Xp.den (S.at env) (.cmpi .lss (.var 17) (.lenl (.var 16))) = .bool (decide ((i : Int) < (L.length : Int))) := by
  show PV.bool (decide ((env 17).i < ((env 16).l.length : Int))) = _
  rw [h16, h17]
  have : ((PV.lst (L.map PV.str)).l.length : Int) = (L.length : Int) := by show ((L.map PV.str).length : Int) = _; rw [List.length_map]
  rw [this]
  rfl
theorem minb2 {env : Env} {L : List ByteArray} (h16 : env 16 = .lst (L.map PV.str)) (i : Nat) (h17 : env 17 = .int i) (h : i < L.length) : @Xp.den (S.at env) (.inb (.var 17) (.lenl (.var 16))) = .bool true := by
  show PV.bool (decide (0 ≤ (env 17).i) && decide ((env 17).i < ((env 16).l.length : Int))) = _
  rw [h16, h17]
  have : ((PV.lst (L.map PV.str)).l.length : Int) = (L.length : Int) := by show ((L.map PV.str).length : Int) = _; rw [List.length_map]
  rw [this]
  exact congrArg PV.bool (inb_ok h)
theorem meq2 {env : Env} {L : List ByteArray} (h16 : env 16 = .lst (L.map PV.str)) (i : Nat) (h17 : env 17 = .int i) (h : i < L.length) {k : ByteArray} (hK : @Xp.den (S.at env) mK = .str k) : @Xp.den (S.at env) (.eqs (.get (.var 16) (.var 17) 1 0) mK) = .bool (decide (L[i] = k)) := by
  show PV.bool (decide (((((env 16).l.getD (env 17).i.toNat default).row 1).getD 0 default).s = (@Xp.den (S.at env) mK).s)) = _
  rw [hK, h16, h17]
  have : ((((PV.lst (L.map PV.str)).l.getD (PV.int (i : Int)).i.toNat default).row 1).getD 0 default).s = L[i] := by
    show (((L.map PV.str).getD i default)).s = _
    rw [List.getD_eq_getElem?_getD, List.getElem?_map, List.getElem?_eq_getElem h]
    rfl
  rw [this]
  rfl
theorem mrng {env : Env} {L : List ByteArray} (h16 : env 16 = .lst (L.map PV.str)) (hL : L.length ≤ 60000) : @Xp.den (S.at env) (.rng (.int 0) (.lenl (.snoc (.var 16) mK)) (.int 100000)) = .bool true := by
  show PV.bool (decide ((0 : Int) ≤ 0) && (decide ((0 : Int) ≤ (((env 16).l ++ [@Xp.den (S.at env) mK]).length : Int)) && decide ((((env 16).l ++ [@Xp.den (S.at env) mK]).length : Int) ≤ 100000))) = _
  refine congrArg PV.bool (len_ok ?_)
  rw [List.length_append, h16]
  show (L.map PV.str).length + 1 ≤ 99999
  rw [List.length_map]
  omega
theorem take_mem {L : List ByteArray} {k : ByteArray} {i : Nat} (h : i < L.length) (hn : k ∉ L.take i) (he : L[i] ≠ k) : k ∉ L.take (i + 1) := by
  rw [List.take_succ_eq_append_getElem h, List.mem_append, List.mem_singleton]
  rintro (h1 | h1)
  · exact hn h1
  · exact he h1.symm
/-- What the tail of a line comes to. -/
def TailOut (env : Env) (i : Nat) (k v : ByteArray) (L : List ByteArray) (out : Outc) : Prop :=
  if inL k L = true then LnOut 12 (fun j => env (j + 1)) L out else if numOk (LL v) = true then LnOut 0 (fun j => if j = i then .int (numI (LL v)) else env (j + 1)) (L ++ [k]) out else LnOut 8 (fun j => env (j + 1)) L out
theorem ml_tail0 (hS : MlS S) (env : Env) (k v : ByteArray) (L : List ByteArray) (hW : @Xp.den (S.at env) mW = .lst ([k, v].map PV.str)) (h16 : env 16 = .lst (L.map PV.str)) (hL : L.length ≤ 60000) (hv : v.size ≤ 60000) : ∃ out, ml_M92_0 env out ∧ TailOut env 0 k v L out := by
  have hK : ∀ e : Env, e 0 = env 0 → @Xp.den (S.at e) mW = .lst ([k, v].map PV.str) := fun e h0 => by
    rw [← hW]
    show S.fn 3 [e 0] = S.fn 3 [env 0]
    rw [h0]
  obtain ⟨out, h1, h2⟩ := loop_run (nE := 2) (R := fun _ => ml_B1) (fun i e => (∀ j, j ≤ 16 → e j = env j) ∧ e 17 = .int i ∧ k ∉ L.take i) (fun out => (k ∈ L ∧ ∃ e, out = .inl (1, e) ∧ LnOut 12 (fun j => env (j + 1)) L (.inl (0, e))) ∨ (k ∉ L ∧ ∃ e, out = .inl (0, e) ∧ ∀ j, j ≤ 16 → e j = env j)) L.length
    (fun i e hi ⟨k0, k1, k2⟩ => by
      have g16 : e 16 = .lst (L.map PV.str) := (k0 16 (by omega)).trans h16
      have gW := hK e (k0 0 (by omega))
      have c1 := mlss g16 i k1
      by_cases h : i < L.length
      · rw [decide_eq_true (show (i : Int) < (L.length : Int) by omega)] at c1
        have c2 := minb2 g16 i k1 h
        have c3 := minb gW 0 (show 0 < 2 by omega)
        have c4 := meq2 g16 i k1 h (mget gW 0 (show 0 < 2 by omega))
        by_cases he : L[i] = k
        · rw [decide_eq_true (show L[i] = [k, v][0] from he)] at c4
          refine .inr (.inl ⟨1, _, by omega, selR_at ((sel_br c1).trans ((sel_must c2).trans ((sel_must c3).trans ((sel_br c4).trans rfl)))), .inl ⟨he ▸ List.getElem_mem h, _, rfl, _, rfl, rfl, g16, all15 (k0 1 (by omega)) (k0 2 (by omega)) (k0 3 (by omega)) (k0 4 (by omega)) (k0 5 (by omega)) (k0 6 (by omega)) (k0 7 (by omega)) (k0 8 (by omega)) (k0 9 (by omega)) (k0 10 (by omega)) (k0 11 (by omega)) (k0 12 (by omega)) (k0 13 (by omega)) (k0 14 (by omega)) (k0 15 (by omega))⟩⟩)
        · rw [decide_eq_false (show ¬ L[i] = [k, v][0] from he)] at c4
          refine .inl ⟨_, selR_at ((sel_br c1).trans ((sel_must c2).trans ((sel_must c3).trans ((sel_br c4).trans rfl)))), h, fun j hj => ?_, ?_, take_mem h k2 he⟩
          · rw [← k0 j hj]
            have : j = 16 ∨ j = 15 ∨ j < 15 := by omega
            rcases this with rfl | rfl | h15
            · rfl
            · rfl
            · exact all15 (P := fun j => envOf (S := S.at e) _ j = e j) rfl rfl rfl rfl rfl rfl rfl rfl rfl rfl rfl rfl rfl rfl rfl j h15
          · show PV.int (IntKind.i64.wrap ((e 17).i + 1)) = _
            rw [k1]
            show PV.int (IntKind.i64.wrap ((i : Int) + 1)) = _
            rw [i64_add1 (by omega) (by omega)]
            rfl
      · rw [decide_eq_false (show ¬ (i : Int) < (L.length : Int) by omega)] at c1
        refine .inr (.inl ⟨0, _, by omega, selR_at ((sel_br c1).trans rfl), .inr ⟨?_, _, rfl, fun j hj => ?_⟩⟩)
        · rw [List.take_of_length_le (by omega)] at k2
          exact k2
        · rw [← k0 j hj]
          have : j = 16 ∨ j = 15 ∨ j < 15 := by omega
          rcases this with rfl | rfl | h15
          · rfl
          · rfl
          · exact all15 (P := fun j => envOf (S := S.at e) _ j = e j) rfl rfl rfl rfl rfl rfl rfl rfl rfl rfl rfl rfl rfl rfl rfl j h15)
    L.length 0 (@envOf (S.at env) [.var 0, .var 1, .var 2, .var 3, .var 4, .var 5, .var 6, .var 7, .var 8, .var 9, .var 10, .var 11, .var 12, .var 13, .var 14, .var 15, .var 16, .int 0]) (by omega) ⟨fun j hj => by
      have : j = 16 ∨ j = 15 ∨ j < 15 := by omega
      rcases this with rfl | rfl | h15
      · rfl
      · rfl
      · exact all15 (P := fun j => envOf (S := S.at env) _ j = env j) rfl rfl rfl rfl rfl rfl rfl rfl rfl rfl rfl rfl rfl rfl rfl j h15, rfl, by simp⟩
  have h3 : ThenE 1 1 (selR ml_t17) (fun _ => ml_L1) env out := then_on (selR_at (T := ml_t17) rfl) (by omega) h1
  unfold TailOut
  rcases h2 with ⟨hin, e, rfl, h4⟩ | ⟨hin, e, rfl, h4⟩
  · refine ⟨_, then_out (nL := 1) (nH := 0) (j := 0) (e := e) h3, ?_⟩
    rw [if_pos (inL_iff.2 hin)]
    exact h4
  · have gW := hK e (h4 0 (by omega))
    have g16 : e 16 = .lst (L.map PV.str) := (h4 16 (by omega)).trans h16
    have c1 := minb gW 1 (show 1 < 2 by omega)
    have hV : @Xp.den (S.at e) mV = .str v := mget gW 1 (show 1 < 2 by omega)
    have hKK : @Xp.den (S.at e) mK = .str k := mget gW 0 (show 0 < 2 by omega)
    have c2 : @Xp.den (S.at e) (.app 34 (.cons mV (.nil))) = .bool true := by
      show S.fn 34 [@Xp.den (S.at e) mV] = _
      rw [hV, hS.numpre]
      exact congrArg PV.bool (decide_eq_true (by show v.size ≤ maxLen; unfold maxLen; omega))
    have c3 : @Xp.den (S.at e) (.cell (.app 4 (.cons mV (.nil))) 1) = .bool (numOk (LL v)) := by
      show (S.fn 4 [@Xp.den (S.at e) mV]).cl 1 = _
      rw [hV, hS.num]
      rfl
    have c3n : @Xp.den (S.at e) (.cell (.app 4 (.cons mV (.nil))) 0) = .int (numI (LL v)) := by
      show (S.fn 4 [@Xp.den (S.at e) mV]).cl 0 = _
      rw [hV, hS.num]
      rfl
    cases hn : numOk (LL v) with
    | true =>
      rw [hn] at c3
      refine ⟨_, then_on h3 (by omega) (selR_at (T := ml_t21) ((sel_must c1).trans ((sel_must c2).trans ((sel_br c3).trans ((sel_must (minb gW 0 (show 0 < 2 by omega))).trans ((sel_must (mrng g16 hL)).trans rfl)))))), ?_⟩
      rw [if_neg (fun h => hin (inL_iff.1 h)), if_pos rfl]
      refine ⟨_, rfl, rfl, ?_, all15 c3n (h4 2 (by omega)) (h4 3 (by omega)) (h4 4 (by omega)) (h4 5 (by omega)) (h4 6 (by omega)) (h4 7 (by omega)) (h4 8 (by omega)) (h4 9 (by omega)) (h4 10 (by omega)) (h4 11 (by omega)) (h4 12 (by omega)) (h4 13 (by omega)) (h4 14 (by omega)) (h4 15 (by omega))⟩
      show PV.lst ((e 16).l ++ [@Xp.den (S.at e) mK]) = _
      rw [g16, hKK, List.map_append]
      rfl
    | false =>
      rw [hn] at c3
      refine ⟨_, then_on h3 (by omega) (selR_at (T := ml_t21) ((sel_must c1).trans ((sel_must c2).trans ((sel_br c3).trans rfl)))), ?_⟩
      rw [if_neg (fun h => hin (inL_iff.1 h)), if_neg (by decide)]
      exact ⟨_, rfl, rfl, g16, all15 (h4 1 (by omega)) (h4 2 (by omega)) (h4 3 (by omega)) (h4 4 (by omega)) (h4 5 (by omega)) (h4 6 (by omega)) (h4 7 (by omega)) (h4 8 (by omega)) (h4 9 (by omega)) (h4 10 (by omega)) (h4 11 (by omega)) (h4 12 (by omega)) (h4 13 (by omega)) (h4 14 (by omega)) (h4 15 (by omega))⟩
theorem ml_tail1 (hS : MlS S) (env : Env) (k v : ByteArray) (L : List ByteArray) (hW : @Xp.den (S.at env) mW = .lst ([k, v].map PV.str)) (h16 : env 16 = .lst (L.map PV.str)) (hL : L.length ≤ 60000) (hv : v.size ≤ 60000) : ∃ out, ml_M92_1 env out ∧ TailOut env 1 k v L out := by
  have hK : ∀ e : Env, e 0 = env 0 → @Xp.den (S.at e) mW = .lst ([k, v].map PV.str) := fun e h0 => by
    rw [← hW]
    show S.fn 3 [e 0] = S.fn 3 [env 0]
    rw [h0]
  obtain ⟨out, h1, h2⟩ := loop_run (nE := 2) (R := fun _ => ml_B2) (fun i e => (∀ j, j ≤ 16 → e j = env j) ∧ e 17 = .int i ∧ k ∉ L.take i) (fun out => (k ∈ L ∧ ∃ e, out = .inl (1, e) ∧ LnOut 12 (fun j => env (j + 1)) L (.inl (0, e))) ∨ (k ∉ L ∧ ∃ e, out = .inl (0, e) ∧ ∀ j, j ≤ 16 → e j = env j)) L.length
    (fun i e hi ⟨k0, k1, k2⟩ => by
      have g16 : e 16 = .lst (L.map PV.str) := (k0 16 (by omega)).trans h16
      have gW := hK e (k0 0 (by omega))
      have c1 := mlss g16 i k1
      by_cases h : i < L.length
      · rw [decide_eq_true (show (i : Int) < (L.length : Int) by omega)] at c1
        have c2 := minb2 g16 i k1 h
        have c3 := minb gW 0 (show 0 < 2 by omega)
        have c4 := meq2 g16 i k1 h (mget gW 0 (show 0 < 2 by omega))
        by_cases he : L[i] = k
        · rw [decide_eq_true (show L[i] = [k, v][0] from he)] at c4
          refine .inr (.inl ⟨1, _, by omega, selR_at ((sel_br c1).trans ((sel_must c2).trans ((sel_must c3).trans ((sel_br c4).trans rfl)))), .inl ⟨he ▸ List.getElem_mem h, _, rfl, _, rfl, rfl, g16, all15 (k0 1 (by omega)) (k0 2 (by omega)) (k0 3 (by omega)) (k0 4 (by omega)) (k0 5 (by omega)) (k0 6 (by omega)) (k0 7 (by omega)) (k0 8 (by omega)) (k0 9 (by omega)) (k0 10 (by omega)) (k0 11 (by omega)) (k0 12 (by omega)) (k0 13 (by omega)) (k0 14 (by omega)) (k0 15 (by omega))⟩⟩)
        · rw [decide_eq_false (show ¬ L[i] = [k, v][0] from he)] at c4
          refine .inl ⟨_, selR_at ((sel_br c1).trans ((sel_must c2).trans ((sel_must c3).trans ((sel_br c4).trans rfl)))), h, fun j hj => ?_, ?_, take_mem h k2 he⟩
          · rw [← k0 j hj]
            have : j = 16 ∨ j = 15 ∨ j < 15 := by omega
            rcases this with rfl | rfl | h15
            · rfl
            · rfl
            · exact all15 (P := fun j => envOf (S := S.at e) _ j = e j) rfl rfl rfl rfl rfl rfl rfl rfl rfl rfl rfl rfl rfl rfl rfl j h15
          · show PV.int (IntKind.i64.wrap ((e 17).i + 1)) = _
            rw [k1]
            show PV.int (IntKind.i64.wrap ((i : Int) + 1)) = _
            rw [i64_add1 (by omega) (by omega)]
            rfl
      · rw [decide_eq_false (show ¬ (i : Int) < (L.length : Int) by omega)] at c1
        refine .inr (.inl ⟨0, _, by omega, selR_at ((sel_br c1).trans rfl), .inr ⟨?_, _, rfl, fun j hj => ?_⟩⟩)
        · rw [List.take_of_length_le (by omega)] at k2
          exact k2
        · rw [← k0 j hj]
          have : j = 16 ∨ j = 15 ∨ j < 15 := by omega
          rcases this with rfl | rfl | h15
          · rfl
          · rfl
          · exact all15 (P := fun j => envOf (S := S.at e) _ j = e j) rfl rfl rfl rfl rfl rfl rfl rfl rfl rfl rfl rfl rfl rfl rfl j h15)
    L.length 0 (@envOf (S.at env) [.var 0, .var 1, .var 2, .var 3, .var 4, .var 5, .var 6, .var 7, .var 8, .var 9, .var 10, .var 11, .var 12, .var 13, .var 14, .var 15, .var 16, .int 0]) (by omega) ⟨fun j hj => by
      have : j = 16 ∨ j = 15 ∨ j < 15 := by omega
      rcases this with rfl | rfl | h15
      · rfl
      · rfl
      · exact all15 (P := fun j => envOf (S := S.at env) _ j = env j) rfl rfl rfl rfl rfl rfl rfl rfl rfl rfl rfl rfl rfl rfl rfl j h15, rfl, by simp⟩
  have h3 : ThenE 1 1 (selR ml_t22) (fun _ => ml_L2) env out := then_on (selR_at (T := ml_t22) rfl) (by omega) h1
  unfold TailOut
  rcases h2 with ⟨hin, e, rfl, h4⟩ | ⟨hin, e, rfl, h4⟩
  · refine ⟨_, then_out (nL := 1) (nH := 0) (j := 0) (e := e) h3, ?_⟩
    rw [if_pos (inL_iff.2 hin)]
    exact h4
  · have gW := hK e (h4 0 (by omega))
    have g16 : e 16 = .lst (L.map PV.str) := (h4 16 (by omega)).trans h16
    have c1 := minb gW 1 (show 1 < 2 by omega)
    have hV : @Xp.den (S.at e) mV = .str v := mget gW 1 (show 1 < 2 by omega)
    have hKK : @Xp.den (S.at e) mK = .str k := mget gW 0 (show 0 < 2 by omega)
    have c2 : @Xp.den (S.at e) (.app 34 (.cons mV (.nil))) = .bool true := by
      show S.fn 34 [@Xp.den (S.at e) mV] = _
      rw [hV, hS.numpre]
      exact congrArg PV.bool (decide_eq_true (by show v.size ≤ maxLen; unfold maxLen; omega))
    have c3 : @Xp.den (S.at e) (.cell (.app 4 (.cons mV (.nil))) 1) = .bool (numOk (LL v)) := by
      show (S.fn 4 [@Xp.den (S.at e) mV]).cl 1 = _
      rw [hV, hS.num]
      rfl
    have c3n : @Xp.den (S.at e) (.cell (.app 4 (.cons mV (.nil))) 0) = .int (numI (LL v)) := by
      show (S.fn 4 [@Xp.den (S.at e) mV]).cl 0 = _
      rw [hV, hS.num]
      rfl
    cases hn : numOk (LL v) with
    | true =>
      rw [hn] at c3
      refine ⟨_, then_on h3 (by omega) (selR_at (T := ml_t26) ((sel_must c1).trans ((sel_must c2).trans ((sel_br c3).trans ((sel_must (minb gW 0 (show 0 < 2 by omega))).trans ((sel_must (mrng g16 hL)).trans rfl)))))), ?_⟩
      rw [if_neg (fun h => hin (inL_iff.1 h)), if_pos rfl]
      refine ⟨_, rfl, rfl, ?_, all15 (h4 1 (by omega)) c3n (h4 3 (by omega)) (h4 4 (by omega)) (h4 5 (by omega)) (h4 6 (by omega)) (h4 7 (by omega)) (h4 8 (by omega)) (h4 9 (by omega)) (h4 10 (by omega)) (h4 11 (by omega)) (h4 12 (by omega)) (h4 13 (by omega)) (h4 14 (by omega)) (h4 15 (by omega))⟩
      show PV.lst ((e 16).l ++ [@Xp.den (S.at e) mK]) = _
      rw [g16, hKK, List.map_append]
      rfl
    | false =>
      rw [hn] at c3
      refine ⟨_, then_on h3 (by omega) (selR_at (T := ml_t26) ((sel_must c1).trans ((sel_must c2).trans ((sel_br c3).trans rfl)))), ?_⟩
      rw [if_neg (fun h => hin (inL_iff.1 h)), if_neg (by decide)]
      exact ⟨_, rfl, rfl, g16, all15 (h4 1 (by omega)) (h4 2 (by omega)) (h4 3 (by omega)) (h4 4 (by omega)) (h4 5 (by omega)) (h4 6 (by omega)) (h4 7 (by omega)) (h4 8 (by omega)) (h4 9 (by omega)) (h4 10 (by omega)) (h4 11 (by omega)) (h4 12 (by omega)) (h4 13 (by omega)) (h4 14 (by omega)) (h4 15 (by omega))⟩
theorem ml_tail2 (hS : MlS S) (env : Env) (k v : ByteArray) (L : List ByteArray) (hW : @Xp.den (S.at env) mW = .lst ([k, v].map PV.str)) (h16 : env 16 = .lst (L.map PV.str)) (hL : L.length ≤ 60000) (hv : v.size ≤ 60000) : ∃ out, ml_M92_2 env out ∧ TailOut env 2 k v L out := by
  have hK : ∀ e : Env, e 0 = env 0 → @Xp.den (S.at e) mW = .lst ([k, v].map PV.str) := fun e h0 => by
    rw [← hW]
    show S.fn 3 [e 0] = S.fn 3 [env 0]
    rw [h0]
  obtain ⟨out, h1, h2⟩ := loop_run (nE := 2) (R := fun _ => ml_B3) (fun i e => (∀ j, j ≤ 16 → e j = env j) ∧ e 17 = .int i ∧ k ∉ L.take i) (fun out => (k ∈ L ∧ ∃ e, out = .inl (1, e) ∧ LnOut 12 (fun j => env (j + 1)) L (.inl (0, e))) ∨ (k ∉ L ∧ ∃ e, out = .inl (0, e) ∧ ∀ j, j ≤ 16 → e j = env j)) L.length
    (fun i e hi ⟨k0, k1, k2⟩ => by
      have g16 : e 16 = .lst (L.map PV.str) := (k0 16 (by omega)).trans h16
      have gW := hK e (k0 0 (by omega))
      have c1 := mlss g16 i k1
      by_cases h : i < L.length
      · rw [decide_eq_true (show (i : Int) < (L.length : Int) by omega)] at c1
        have c2 := minb2 g16 i k1 h
        have c3 := minb gW 0 (show 0 < 2 by omega)
        have c4 := meq2 g16 i k1 h (mget gW 0 (show 0 < 2 by omega))
        by_cases he : L[i] = k
        · rw [decide_eq_true (show L[i] = [k, v][0] from he)] at c4
          refine .inr (.inl ⟨1, _, by omega, selR_at ((sel_br c1).trans ((sel_must c2).trans ((sel_must c3).trans ((sel_br c4).trans rfl)))), .inl ⟨he ▸ List.getElem_mem h, _, rfl, _, rfl, rfl, g16, all15 (k0 1 (by omega)) (k0 2 (by omega)) (k0 3 (by omega)) (k0 4 (by omega)) (k0 5 (by omega)) (k0 6 (by omega)) (k0 7 (by omega)) (k0 8 (by omega)) (k0 9 (by omega)) (k0 10 (by omega)) (k0 11 (by omega)) (k0 12 (by omega)) (k0 13 (by omega)) (k0 14 (by omega)) (k0 15 (by omega))⟩⟩)
        · rw [decide_eq_false (show ¬ L[i] = [k, v][0] from he)] at c4
          refine .inl ⟨_, selR_at ((sel_br c1).trans ((sel_must c2).trans ((sel_must c3).trans ((sel_br c4).trans rfl)))), h, fun j hj => ?_, ?_, take_mem h k2 he⟩
          · rw [← k0 j hj]
            have : j = 16 ∨ j = 15 ∨ j < 15 := by omega
            rcases this with rfl | rfl | h15
            · rfl
            · rfl
            · exact all15 (P := fun j => envOf (S := S.at e) _ j = e j) rfl rfl rfl rfl rfl rfl rfl rfl rfl rfl rfl rfl rfl rfl rfl j h15
          · show PV.int (IntKind.i64.wrap ((e 17).i + 1)) = _
            rw [k1]
            show PV.int (IntKind.i64.wrap ((i : Int) + 1)) = _
            rw [i64_add1 (by omega) (by omega)]
            rfl
      · rw [decide_eq_false (show ¬ (i : Int) < (L.length : Int) by omega)] at c1
        refine .inr (.inl ⟨0, _, by omega, selR_at ((sel_br c1).trans rfl), .inr ⟨?_, _, rfl, fun j hj => ?_⟩⟩)
        · rw [List.take_of_length_le (by omega)] at k2
          exact k2
        · rw [← k0 j hj]
          have : j = 16 ∨ j = 15 ∨ j < 15 := by omega
          rcases this with rfl | rfl | h15
          · rfl
          · rfl
          · exact all15 (P := fun j => envOf (S := S.at e) _ j = e j) rfl rfl rfl rfl rfl rfl rfl rfl rfl rfl rfl rfl rfl rfl rfl j h15)
    L.length 0 (@envOf (S.at env) [.var 0, .var 1, .var 2, .var 3, .var 4, .var 5, .var 6, .var 7, .var 8, .var 9, .var 10, .var 11, .var 12, .var 13, .var 14, .var 15, .var 16, .int 0]) (by omega) ⟨fun j hj => by
      have : j = 16 ∨ j = 15 ∨ j < 15 := by omega
      rcases this with rfl | rfl | h15
      · rfl
      · rfl
      · exact all15 (P := fun j => envOf (S := S.at env) _ j = env j) rfl rfl rfl rfl rfl rfl rfl rfl rfl rfl rfl rfl rfl rfl rfl j h15, rfl, by simp⟩
  have h3 : ThenE 1 1 (selR ml_t27) (fun _ => ml_L3) env out := then_on (selR_at (T := ml_t27) rfl) (by omega) h1
  unfold TailOut
  rcases h2 with ⟨hin, e, rfl, h4⟩ | ⟨hin, e, rfl, h4⟩
  · refine ⟨_, then_out (nL := 1) (nH := 0) (j := 0) (e := e) h3, ?_⟩
    rw [if_pos (inL_iff.2 hin)]
    exact h4
  · have gW := hK e (h4 0 (by omega))
    have g16 : e 16 = .lst (L.map PV.str) := (h4 16 (by omega)).trans h16
    have c1 := minb gW 1 (show 1 < 2 by omega)
    have hV : @Xp.den (S.at e) mV = .str v := mget gW 1 (show 1 < 2 by omega)
    have hKK : @Xp.den (S.at e) mK = .str k := mget gW 0 (show 0 < 2 by omega)
    have c2 : @Xp.den (S.at e) (.app 34 (.cons mV (.nil))) = .bool true := by
      show S.fn 34 [@Xp.den (S.at e) mV] = _
      rw [hV, hS.numpre]
      exact congrArg PV.bool (decide_eq_true (by show v.size ≤ maxLen; unfold maxLen; omega))
    have c3 : @Xp.den (S.at e) (.cell (.app 4 (.cons mV (.nil))) 1) = .bool (numOk (LL v)) := by
      show (S.fn 4 [@Xp.den (S.at e) mV]).cl 1 = _
      rw [hV, hS.num]
      rfl
    have c3n : @Xp.den (S.at e) (.cell (.app 4 (.cons mV (.nil))) 0) = .int (numI (LL v)) := by
      show (S.fn 4 [@Xp.den (S.at e) mV]).cl 0 = _
      rw [hV, hS.num]
      rfl
    cases hn : numOk (LL v) with
    | true =>
      rw [hn] at c3
      refine ⟨_, then_on h3 (by omega) (selR_at (T := ml_t31) ((sel_must c1).trans ((sel_must c2).trans ((sel_br c3).trans ((sel_must (minb gW 0 (show 0 < 2 by omega))).trans ((sel_must (mrng g16 hL)).trans rfl)))))), ?_⟩
      rw [if_neg (fun h => hin (inL_iff.1 h)), if_pos rfl]
      refine ⟨_, rfl, rfl, ?_, all15 (h4 1 (by omega)) (h4 2 (by omega)) c3n (h4 4 (by omega)) (h4 5 (by omega)) (h4 6 (by omega)) (h4 7 (by omega)) (h4 8 (by omega)) (h4 9 (by omega)) (h4 10 (by omega)) (h4 11 (by omega)) (h4 12 (by omega)) (h4 13 (by omega)) (h4 14 (by omega)) (h4 15 (by omega))⟩
      show PV.lst ((e 16).l ++ [@Xp.den (S.at e) mK]) = _
      rw [g16, hKK, List.map_append]
      rfl
    | false =>
      rw [hn] at c3
      refine ⟨_, then_on h3 (by omega) (selR_at (T := ml_t31) ((sel_must c1).trans ((sel_must c2).trans ((sel_br c3).trans rfl)))), ?_⟩
      rw [if_neg (fun h => hin (inL_iff.1 h)), if_neg (by decide)]
      exact ⟨_, rfl, rfl, g16, all15 (h4 1 (by omega)) (h4 2 (by omega)) (h4 3 (by omega)) (h4 4 (by omega)) (h4 5 (by omega)) (h4 6 (by omega)) (h4 7 (by omega)) (h4 8 (by omega)) (h4 9 (by omega)) (h4 10 (by omega)) (h4 11 (by omega)) (h4 12 (by omega)) (h4 13 (by omega)) (h4 14 (by omega)) (h4 15 (by omega))⟩
theorem ml_tail3 (hS : MlS S) (env : Env) (k v : ByteArray) (L : List ByteArray) (hW : @Xp.den (S.at env) mW = .lst ([k, v].map PV.str)) (h16 : env 16 = .lst (L.map PV.str)) (hL : L.length ≤ 60000) (hv : v.size ≤ 60000) : ∃ out, ml_M92_3 env out ∧ TailOut env 3 k v L out := by
  have hK : ∀ e : Env, e 0 = env 0 → @Xp.den (S.at e) mW = .lst ([k, v].map PV.str) := fun e h0 => by
    rw [← hW]
    show S.fn 3 [e 0] = S.fn 3 [env 0]
    rw [h0]
  obtain ⟨out, h1, h2⟩ := loop_run (nE := 2) (R := fun _ => ml_B4) (fun i e => (∀ j, j ≤ 16 → e j = env j) ∧ e 17 = .int i ∧ k ∉ L.take i) (fun out => (k ∈ L ∧ ∃ e, out = .inl (1, e) ∧ LnOut 12 (fun j => env (j + 1)) L (.inl (0, e))) ∨ (k ∉ L ∧ ∃ e, out = .inl (0, e) ∧ ∀ j, j ≤ 16 → e j = env j)) L.length
    (fun i e hi ⟨k0, k1, k2⟩ => by
      have g16 : e 16 = .lst (L.map PV.str) := (k0 16 (by omega)).trans h16
      have gW := hK e (k0 0 (by omega))
      have c1 := mlss g16 i k1
      by_cases h : i < L.length
      · rw [decide_eq_true (show (i : Int) < (L.length : Int) by omega)] at c1
        have c2 := minb2 g16 i k1 h
        have c3 := minb gW 0 (show 0 < 2 by omega)
        have c4 := meq2 g16 i k1 h (mget gW 0 (show 0 < 2 by omega))
        by_cases he : L[i] = k
        · rw [decide_eq_true (show L[i] = [k, v][0] from he)] at c4
          refine .inr (.inl ⟨1, _, by omega, selR_at ((sel_br c1).trans ((sel_must c2).trans ((sel_must c3).trans ((sel_br c4).trans rfl)))), .inl ⟨he ▸ List.getElem_mem h, _, rfl, _, rfl, rfl, g16, all15 (k0 1 (by omega)) (k0 2 (by omega)) (k0 3 (by omega)) (k0 4 (by omega)) (k0 5 (by omega)) (k0 6 (by omega)) (k0 7 (by omega)) (k0 8 (by omega)) (k0 9 (by omega)) (k0 10 (by omega)) (k0 11 (by omega)) (k0 12 (by omega)) (k0 13 (by omega)) (k0 14 (by omega)) (k0 15 (by omega))⟩⟩)
        · rw [decide_eq_false (show ¬ L[i] = [k, v][0] from he)] at c4
          refine .inl ⟨_, selR_at ((sel_br c1).trans ((sel_must c2).trans ((sel_must c3).trans ((sel_br c4).trans rfl)))), h, fun j hj => ?_, ?_, take_mem h k2 he⟩
          · rw [← k0 j hj]
            have : j = 16 ∨ j = 15 ∨ j < 15 := by omega
            rcases this with rfl | rfl | h15
            · rfl
            · rfl
            · exact all15 (P := fun j => envOf (S := S.at e) _ j = e j) rfl rfl rfl rfl rfl rfl rfl rfl rfl rfl rfl rfl rfl rfl rfl j h15
          · show PV.int (IntKind.i64.wrap ((e 17).i + 1)) = _
            rw [k1]
            show PV.int (IntKind.i64.wrap ((i : Int) + 1)) = _
            rw [i64_add1 (by omega) (by omega)]
            rfl
      · rw [decide_eq_false (show ¬ (i : Int) < (L.length : Int) by omega)] at c1
        refine .inr (.inl ⟨0, _, by omega, selR_at ((sel_br c1).trans rfl), .inr ⟨?_, _, rfl, fun j hj => ?_⟩⟩)
        · rw [List.take_of_length_le (by omega)] at k2
          exact k2
        · rw [← k0 j hj]
          have : j = 16 ∨ j = 15 ∨ j < 15 := by omega
          rcases this with rfl | rfl | h15
          · rfl
          · rfl
          · exact all15 (P := fun j => envOf (S := S.at e) _ j = e j) rfl rfl rfl rfl rfl rfl rfl rfl rfl rfl rfl rfl rfl rfl rfl j h15)
    L.length 0 (@envOf (S.at env) [.var 0, .var 1, .var 2, .var 3, .var 4, .var 5, .var 6, .var 7, .var 8, .var 9, .var 10, .var 11, .var 12, .var 13, .var 14, .var 15, .var 16, .int 0]) (by omega) ⟨fun j hj => by
      have : j = 16 ∨ j = 15 ∨ j < 15 := by omega
      rcases this with rfl | rfl | h15
      · rfl
      · rfl
      · exact all15 (P := fun j => envOf (S := S.at env) _ j = env j) rfl rfl rfl rfl rfl rfl rfl rfl rfl rfl rfl rfl rfl rfl rfl j h15, rfl, by simp⟩
  have h3 : ThenE 1 1 (selR ml_t32) (fun _ => ml_L4) env out := then_on (selR_at (T := ml_t32) rfl) (by omega) h1
  unfold TailOut
  rcases h2 with ⟨hin, e, rfl, h4⟩ | ⟨hin, e, rfl, h4⟩
  · refine ⟨_, then_out (nL := 1) (nH := 0) (j := 0) (e := e) h3, ?_⟩
    rw [if_pos (inL_iff.2 hin)]
    exact h4
  · have gW := hK e (h4 0 (by omega))
    have g16 : e 16 = .lst (L.map PV.str) := (h4 16 (by omega)).trans h16
    have c1 := minb gW 1 (show 1 < 2 by omega)
    have hV : @Xp.den (S.at e) mV = .str v := mget gW 1 (show 1 < 2 by omega)
    have hKK : @Xp.den (S.at e) mK = .str k := mget gW 0 (show 0 < 2 by omega)
    have c2 : @Xp.den (S.at e) (.app 34 (.cons mV (.nil))) = .bool true := by
      show S.fn 34 [@Xp.den (S.at e) mV] = _
      rw [hV, hS.numpre]
      exact congrArg PV.bool (decide_eq_true (by show v.size ≤ maxLen; unfold maxLen; omega))
    have c3 : @Xp.den (S.at e) (.cell (.app 4 (.cons mV (.nil))) 1) = .bool (numOk (LL v)) := by
      show (S.fn 4 [@Xp.den (S.at e) mV]).cl 1 = _
      rw [hV, hS.num]
      rfl
    have c3n : @Xp.den (S.at e) (.cell (.app 4 (.cons mV (.nil))) 0) = .int (numI (LL v)) := by
      show (S.fn 4 [@Xp.den (S.at e) mV]).cl 0 = _
      rw [hV, hS.num]
      rfl
    cases hn : numOk (LL v) with
    | true =>
      rw [hn] at c3
      refine ⟨_, then_on h3 (by omega) (selR_at (T := ml_t36) ((sel_must c1).trans ((sel_must c2).trans ((sel_br c3).trans ((sel_must (minb gW 0 (show 0 < 2 by omega))).trans ((sel_must (mrng g16 hL)).trans rfl)))))), ?_⟩
      rw [if_neg (fun h => hin (inL_iff.1 h)), if_pos rfl]
      refine ⟨_, rfl, rfl, ?_, all15 (h4 1 (by omega)) (h4 2 (by omega)) (h4 3 (by omega)) c3n (h4 5 (by omega)) (h4 6 (by omega)) (h4 7 (by omega)) (h4 8 (by omega)) (h4 9 (by omega)) (h4 10 (by omega)) (h4 11 (by omega)) (h4 12 (by omega)) (h4 13 (by omega)) (h4 14 (by omega)) (h4 15 (by omega))⟩
      show PV.lst ((e 16).l ++ [@Xp.den (S.at e) mK]) = _
      rw [g16, hKK, List.map_append]
      rfl
    | false =>
      rw [hn] at c3
      refine ⟨_, then_on h3 (by omega) (selR_at (T := ml_t36) ((sel_must c1).trans ((sel_must c2).trans ((sel_br c3).trans rfl)))), ?_⟩
      rw [if_neg (fun h => hin (inL_iff.1 h)), if_neg (by decide)]
      exact ⟨_, rfl, rfl, g16, all15 (h4 1 (by omega)) (h4 2 (by omega)) (h4 3 (by omega)) (h4 4 (by omega)) (h4 5 (by omega)) (h4 6 (by omega)) (h4 7 (by omega)) (h4 8 (by omega)) (h4 9 (by omega)) (h4 10 (by omega)) (h4 11 (by omega)) (h4 12 (by omega)) (h4 13 (by omega)) (h4 14 (by omega)) (h4 15 (by omega))⟩
theorem ml_tail4 (hS : MlS S) (env : Env) (k v : ByteArray) (L : List ByteArray) (hW : @Xp.den (S.at env) mW = .lst ([k, v].map PV.str)) (h16 : env 16 = .lst (L.map PV.str)) (hL : L.length ≤ 60000) (hv : v.size ≤ 60000) : ∃ out, ml_M92_4 env out ∧ TailOut env 4 k v L out := by
  have hK : ∀ e : Env, e 0 = env 0 → @Xp.den (S.at e) mW = .lst ([k, v].map PV.str) := fun e h0 => by
    rw [← hW]
    show S.fn 3 [e 0] = S.fn 3 [env 0]
    rw [h0]
  obtain ⟨out, h1, h2⟩ := loop_run (nE := 2) (R := fun _ => ml_B5) (fun i e => (∀ j, j ≤ 16 → e j = env j) ∧ e 17 = .int i ∧ k ∉ L.take i) (fun out => (k ∈ L ∧ ∃ e, out = .inl (1, e) ∧ LnOut 12 (fun j => env (j + 1)) L (.inl (0, e))) ∨ (k ∉ L ∧ ∃ e, out = .inl (0, e) ∧ ∀ j, j ≤ 16 → e j = env j)) L.length
    (fun i e hi ⟨k0, k1, k2⟩ => by
      have g16 : e 16 = .lst (L.map PV.str) := (k0 16 (by omega)).trans h16
      have gW := hK e (k0 0 (by omega))
      have c1 := mlss g16 i k1
      by_cases h : i < L.length
      · rw [decide_eq_true (show (i : Int) < (L.length : Int) by omega)] at c1
        have c2 := minb2 g16 i k1 h
        have c3 := minb gW 0 (show 0 < 2 by omega)
        have c4 := meq2 g16 i k1 h (mget gW 0 (show 0 < 2 by omega))
        by_cases he : L[i] = k
        · rw [decide_eq_true (show L[i] = [k, v][0] from he)] at c4
          refine .inr (.inl ⟨1, _, by omega, selR_at ((sel_br c1).trans ((sel_must c2).trans ((sel_must c3).trans ((sel_br c4).trans rfl)))), .inl ⟨he ▸ List.getElem_mem h, _, rfl, _, rfl, rfl, g16, all15 (k0 1 (by omega)) (k0 2 (by omega)) (k0 3 (by omega)) (k0 4 (by omega)) (k0 5 (by omega)) (k0 6 (by omega)) (k0 7 (by omega)) (k0 8 (by omega)) (k0 9 (by omega)) (k0 10 (by omega)) (k0 11 (by omega)) (k0 12 (by omega)) (k0 13 (by omega)) (k0 14 (by omega)) (k0 15 (by omega))⟩⟩)
        · rw [decide_eq_false (show ¬ L[i] = [k, v][0] from he)] at c4
          refine .inl ⟨_, selR_at ((sel_br c1).trans ((sel_must c2).trans ((sel_must c3).trans ((sel_br c4).trans rfl)))), h, fun j hj => ?_, ?_, take_mem h k2 he⟩
          · rw [← k0 j hj]
            have : j = 16 ∨ j = 15 ∨ j < 15 := by omega
            rcases this with rfl | rfl | h15
            · rfl
            · rfl
            · exact all15 (P := fun j => envOf (S := S.at e) _ j = e j) rfl rfl rfl rfl rfl rfl rfl rfl rfl rfl rfl rfl rfl rfl rfl j h15
          · show PV.int (IntKind.i64.wrap ((e 17).i + 1)) = _
            rw [k1]
            show PV.int (IntKind.i64.wrap ((i : Int) + 1)) = _
            rw [i64_add1 (by omega) (by omega)]
            rfl
      · rw [decide_eq_false (show ¬ (i : Int) < (L.length : Int) by omega)] at c1
        refine .inr (.inl ⟨0, _, by omega, selR_at ((sel_br c1).trans rfl), .inr ⟨?_, _, rfl, fun j hj => ?_⟩⟩)
        · rw [List.take_of_length_le (by omega)] at k2
          exact k2
        · rw [← k0 j hj]
          have : j = 16 ∨ j = 15 ∨ j < 15 := by omega
          rcases this with rfl | rfl | h15
          · rfl
          · rfl
          · exact all15 (P := fun j => envOf (S := S.at e) _ j = e j) rfl rfl rfl rfl rfl rfl rfl rfl rfl rfl rfl rfl rfl rfl rfl j h15)
    L.length 0 (@envOf (S.at env) [.var 0, .var 1, .var 2, .var 3, .var 4, .var 5, .var 6, .var 7, .var 8, .var 9, .var 10, .var 11, .var 12, .var 13, .var 14, .var 15, .var 16, .int 0]) (by omega) ⟨fun j hj => by
      have : j = 16 ∨ j = 15 ∨ j < 15 := by omega
      rcases this with rfl | rfl | h15
      · rfl
      · rfl
      · exact all15 (P := fun j => envOf (S := S.at env) _ j = env j) rfl rfl rfl rfl rfl rfl rfl rfl rfl rfl rfl rfl rfl rfl rfl j h15, rfl, by simp⟩
  have h3 : ThenE 1 1 (selR ml_t37) (fun _ => ml_L5) env out := then_on (selR_at (T := ml_t37) rfl) (by omega) h1
  unfold TailOut
  rcases h2 with ⟨hin, e, rfl, h4⟩ | ⟨hin, e, rfl, h4⟩
  · refine ⟨_, then_out (nL := 1) (nH := 0) (j := 0) (e := e) h3, ?_⟩
    rw [if_pos (inL_iff.2 hin)]
    exact h4
  · have gW := hK e (h4 0 (by omega))
    have g16 : e 16 = .lst (L.map PV.str) := (h4 16 (by omega)).trans h16
    have c1 := minb gW 1 (show 1 < 2 by omega)
    have hV : @Xp.den (S.at e) mV = .str v := mget gW 1 (show 1 < 2 by omega)
    have hKK : @Xp.den (S.at e) mK = .str k := mget gW 0 (show 0 < 2 by omega)
    have c2 : @Xp.den (S.at e) (.app 34 (.cons mV (.nil))) = .bool true := by
      show S.fn 34 [@Xp.den (S.at e) mV] = _
      rw [hV, hS.numpre]
      exact congrArg PV.bool (decide_eq_true (by show v.size ≤ maxLen; unfold maxLen; omega))
    have c3 : @Xp.den (S.at e) (.cell (.app 4 (.cons mV (.nil))) 1) = .bool (numOk (LL v)) := by
      show (S.fn 4 [@Xp.den (S.at e) mV]).cl 1 = _
      rw [hV, hS.num]
      rfl
    have c3n : @Xp.den (S.at e) (.cell (.app 4 (.cons mV (.nil))) 0) = .int (numI (LL v)) := by
      show (S.fn 4 [@Xp.den (S.at e) mV]).cl 0 = _
      rw [hV, hS.num]
      rfl
    cases hn : numOk (LL v) with
    | true =>
      rw [hn] at c3
      refine ⟨_, then_on h3 (by omega) (selR_at (T := ml_t41) ((sel_must c1).trans ((sel_must c2).trans ((sel_br c3).trans ((sel_must (minb gW 0 (show 0 < 2 by omega))).trans ((sel_must (mrng g16 hL)).trans rfl)))))), ?_⟩
      rw [if_neg (fun h => hin (inL_iff.1 h)), if_pos rfl]
      refine ⟨_, rfl, rfl, ?_, all15 (h4 1 (by omega)) (h4 2 (by omega)) (h4 3 (by omega)) (h4 4 (by omega)) c3n (h4 6 (by omega)) (h4 7 (by omega)) (h4 8 (by omega)) (h4 9 (by omega)) (h4 10 (by omega)) (h4 11 (by omega)) (h4 12 (by omega)) (h4 13 (by omega)) (h4 14 (by omega)) (h4 15 (by omega))⟩
      show PV.lst ((e 16).l ++ [@Xp.den (S.at e) mK]) = _
      rw [g16, hKK, List.map_append]
      rfl
    | false =>
      rw [hn] at c3
      refine ⟨_, then_on h3 (by omega) (selR_at (T := ml_t41) ((sel_must c1).trans ((sel_must c2).trans ((sel_br c3).trans rfl)))), ?_⟩
      rw [if_neg (fun h => hin (inL_iff.1 h)), if_neg (by decide)]
      exact ⟨_, rfl, rfl, g16, all15 (h4 1 (by omega)) (h4 2 (by omega)) (h4 3 (by omega)) (h4 4 (by omega)) (h4 5 (by omega)) (h4 6 (by omega)) (h4 7 (by omega)) (h4 8 (by omega)) (h4 9 (by omega)) (h4 10 (by omega)) (h4 11 (by omega)) (h4 12 (by omega)) (h4 13 (by omega)) (h4 14 (by omega)) (h4 15 (by omega))⟩
theorem ml_tail5 (hS : MlS S) (env : Env) (k v : ByteArray) (L : List ByteArray) (hW : @Xp.den (S.at env) mW = .lst ([k, v].map PV.str)) (h16 : env 16 = .lst (L.map PV.str)) (hL : L.length ≤ 60000) (hv : v.size ≤ 60000) : ∃ out, ml_M92_5 env out ∧ TailOut env 5 k v L out := by
  have hK : ∀ e : Env, e 0 = env 0 → @Xp.den (S.at e) mW = .lst ([k, v].map PV.str) := fun e h0 => by
    rw [← hW]
    show S.fn 3 [e 0] = S.fn 3 [env 0]
    rw [h0]
  obtain ⟨out, h1, h2⟩ := loop_run (nE := 2) (R := fun _ => ml_B6) (fun i e => (∀ j, j ≤ 16 → e j = env j) ∧ e 17 = .int i ∧ k ∉ L.take i) (fun out => (k ∈ L ∧ ∃ e, out = .inl (1, e) ∧ LnOut 12 (fun j => env (j + 1)) L (.inl (0, e))) ∨ (k ∉ L ∧ ∃ e, out = .inl (0, e) ∧ ∀ j, j ≤ 16 → e j = env j)) L.length
    (fun i e hi ⟨k0, k1, k2⟩ => by
      have g16 : e 16 = .lst (L.map PV.str) := (k0 16 (by omega)).trans h16
      have gW := hK e (k0 0 (by omega))
      have c1 := mlss g16 i k1
      by_cases h : i < L.length
      · rw [decide_eq_true (show (i : Int) < (L.length : Int) by omega)] at c1
        have c2 := minb2 g16 i k1 h
        have c3 := minb gW 0 (show 0 < 2 by omega)
        have c4 := meq2 g16 i k1 h (mget gW 0 (show 0 < 2 by omega))
        by_cases he : L[i] = k
        · rw [decide_eq_true (show L[i] = [k, v][0] from he)] at c4
          refine .inr (.inl ⟨1, _, by omega, selR_at ((sel_br c1).trans ((sel_must c2).trans ((sel_must c3).trans ((sel_br c4).trans rfl)))), .inl ⟨he ▸ List.getElem_mem h, _, rfl, _, rfl, rfl, g16, all15 (k0 1 (by omega)) (k0 2 (by omega)) (k0 3 (by omega)) (k0 4 (by omega)) (k0 5 (by omega)) (k0 6 (by omega)) (k0 7 (by omega)) (k0 8 (by omega)) (k0 9 (by omega)) (k0 10 (by omega)) (k0 11 (by omega)) (k0 12 (by omega)) (k0 13 (by omega)) (k0 14 (by omega)) (k0 15 (by omega))⟩⟩)
        · rw [decide_eq_false (show ¬ L[i] = [k, v][0] from he)] at c4
          refine .inl ⟨_, selR_at ((sel_br c1).trans ((sel_must c2).trans ((sel_must c3).trans ((sel_br c4).trans rfl)))), h, fun j hj => ?_, ?_, take_mem h k2 he⟩
          · rw [← k0 j hj]
            have : j = 16 ∨ j = 15 ∨ j < 15 := by omega
            rcases this with rfl | rfl | h15
            · rfl
            · rfl
            · exact all15 (P := fun j => envOf (S := S.at e) _ j = e j) rfl rfl rfl rfl rfl rfl rfl rfl rfl rfl rfl rfl rfl rfl rfl j h15
          · show PV.int (IntKind.i64.wrap ((e 17).i + 1)) = _
            rw [k1]
            show PV.int (IntKind.i64.wrap ((i : Int) + 1)) = _
            rw [i64_add1 (by omega) (by omega)]
            rfl
      · rw [decide_eq_false (show ¬ (i : Int) < (L.length : Int) by omega)] at c1
        refine .inr (.inl ⟨0, _, by omega, selR_at ((sel_br c1).trans rfl), .inr ⟨?_, _, rfl, fun j hj => ?_⟩⟩)
        · rw [List.take_of_length_le (by omega)] at k2
          exact k2
        · rw [← k0 j hj]
          have : j = 16 ∨ j = 15 ∨ j < 15 := by omega
          rcases this with rfl | rfl | h15
          · rfl
          · rfl
          · exact all15 (P := fun j => envOf (S := S.at e) _ j = e j) rfl rfl rfl rfl rfl rfl rfl rfl rfl rfl rfl rfl rfl rfl rfl j h15)
    L.length 0 (@envOf (S.at env) [.var 0, .var 1, .var 2, .var 3, .var 4, .var 5, .var 6, .var 7, .var 8, .var 9, .var 10, .var 11, .var 12, .var 13, .var 14, .var 15, .var 16, .int 0]) (by omega) ⟨fun j hj => by
      have : j = 16 ∨ j = 15 ∨ j < 15 := by omega
      rcases this with rfl | rfl | h15
      · rfl
      · rfl
      · exact all15 (P := fun j => envOf (S := S.at env) _ j = env j) rfl rfl rfl rfl rfl rfl rfl rfl rfl rfl rfl rfl rfl rfl rfl j h15, rfl, by simp⟩
  have h3 : ThenE 1 1 (selR ml_t42) (fun _ => ml_L6) env out := then_on (selR_at (T := ml_t42) rfl) (by omega) h1
  unfold TailOut
  rcases h2 with ⟨hin, e, rfl, h4⟩ | ⟨hin, e, rfl, h4⟩
  · refine ⟨_, then_out (nL := 1) (nH := 0) (j := 0) (e := e) h3, ?_⟩
    rw [if_pos (inL_iff.2 hin)]
    exact h4
  · have gW := hK e (h4 0 (by omega))
    have g16 : e 16 = .lst (L.map PV.str) := (h4 16 (by omega)).trans h16
    have c1 := minb gW 1 (show 1 < 2 by omega)
    have hV : @Xp.den (S.at e) mV = .str v := mget gW 1 (show 1 < 2 by omega)
    have hKK : @Xp.den (S.at e) mK = .str k := mget gW 0 (show 0 < 2 by omega)
    have c2 : @Xp.den (S.at e) (.app 34 (.cons mV (.nil))) = .bool true := by
      show S.fn 34 [@Xp.den (S.at e) mV] = _
      rw [hV, hS.numpre]
      exact congrArg PV.bool (decide_eq_true (by show v.size ≤ maxLen; unfold maxLen; omega))
    have c3 : @Xp.den (S.at e) (.cell (.app 4 (.cons mV (.nil))) 1) = .bool (numOk (LL v)) := by
      show (S.fn 4 [@Xp.den (S.at e) mV]).cl 1 = _
      rw [hV, hS.num]
      rfl
    have c3n : @Xp.den (S.at e) (.cell (.app 4 (.cons mV (.nil))) 0) = .int (numI (LL v)) := by
      show (S.fn 4 [@Xp.den (S.at e) mV]).cl 0 = _
      rw [hV, hS.num]
      rfl
    cases hn : numOk (LL v) with
    | true =>
      rw [hn] at c3
      refine ⟨_, then_on h3 (by omega) (selR_at (T := ml_t46) ((sel_must c1).trans ((sel_must c2).trans ((sel_br c3).trans ((sel_must (minb gW 0 (show 0 < 2 by omega))).trans ((sel_must (mrng g16 hL)).trans rfl)))))), ?_⟩
      rw [if_neg (fun h => hin (inL_iff.1 h)), if_pos rfl]
      refine ⟨_, rfl, rfl, ?_, all15 (h4 1 (by omega)) (h4 2 (by omega)) (h4 3 (by omega)) (h4 4 (by omega)) (h4 5 (by omega)) c3n (h4 7 (by omega)) (h4 8 (by omega)) (h4 9 (by omega)) (h4 10 (by omega)) (h4 11 (by omega)) (h4 12 (by omega)) (h4 13 (by omega)) (h4 14 (by omega)) (h4 15 (by omega))⟩
      show PV.lst ((e 16).l ++ [@Xp.den (S.at e) mK]) = _
      rw [g16, hKK, List.map_append]
      rfl
    | false =>
      rw [hn] at c3
      refine ⟨_, then_on h3 (by omega) (selR_at (T := ml_t46) ((sel_must c1).trans ((sel_must c2).trans ((sel_br c3).trans rfl)))), ?_⟩
      rw [if_neg (fun h => hin (inL_iff.1 h)), if_neg (by decide)]
      exact ⟨_, rfl, rfl, g16, all15 (h4 1 (by omega)) (h4 2 (by omega)) (h4 3 (by omega)) (h4 4 (by omega)) (h4 5 (by omega)) (h4 6 (by omega)) (h4 7 (by omega)) (h4 8 (by omega)) (h4 9 (by omega)) (h4 10 (by omega)) (h4 11 (by omega)) (h4 12 (by omega)) (h4 13 (by omega)) (h4 14 (by omega)) (h4 15 (by omega))⟩
theorem ml_tail6 (hS : MlS S) (env : Env) (k v : ByteArray) (L : List ByteArray) (hW : @Xp.den (S.at env) mW = .lst ([k, v].map PV.str)) (h16 : env 16 = .lst (L.map PV.str)) (hL : L.length ≤ 60000) (hv : v.size ≤ 60000) : ∃ out, ml_M92_6 env out ∧ TailOut env 6 k v L out := by
  have hK : ∀ e : Env, e 0 = env 0 → @Xp.den (S.at e) mW = .lst ([k, v].map PV.str) := fun e h0 => by
    rw [← hW]
    show S.fn 3 [e 0] = S.fn 3 [env 0]
    rw [h0]
  obtain ⟨out, h1, h2⟩ := loop_run (nE := 2) (R := fun _ => ml_B7) (fun i e => (∀ j, j ≤ 16 → e j = env j) ∧ e 17 = .int i ∧ k ∉ L.take i) (fun out => (k ∈ L ∧ ∃ e, out = .inl (1, e) ∧ LnOut 12 (fun j => env (j + 1)) L (.inl (0, e))) ∨ (k ∉ L ∧ ∃ e, out = .inl (0, e) ∧ ∀ j, j ≤ 16 → e j = env j)) L.length
    (fun i e hi ⟨k0, k1, k2⟩ => by
      have g16 : e 16 = .lst (L.map PV.str) := (k0 16 (by omega)).trans h16
      have gW := hK e (k0 0 (by omega))
      have c1 := mlss g16 i k1
      by_cases h : i < L.length
      · rw [decide_eq_true (show (i : Int) < (L.length : Int) by omega)] at c1
        have c2 := minb2 g16 i k1 h
        have c3 := minb gW 0 (show 0 < 2 by omega)
        have c4 := meq2 g16 i k1 h (mget gW 0 (show 0 < 2 by omega))
        by_cases he : L[i] = k
        · rw [decide_eq_true (show L[i] = [k, v][0] from he)] at c4
          refine .inr (.inl ⟨1, _, by omega, selR_at ((sel_br c1).trans ((sel_must c2).trans ((sel_must c3).trans ((sel_br c4).trans rfl)))), .inl ⟨he ▸ List.getElem_mem h, _, rfl, _, rfl, rfl, g16, all15 (k0 1 (by omega)) (k0 2 (by omega)) (k0 3 (by omega)) (k0 4 (by omega)) (k0 5 (by omega)) (k0 6 (by omega)) (k0 7 (by omega)) (k0 8 (by omega)) (k0 9 (by omega)) (k0 10 (by omega)) (k0 11 (by omega)) (k0 12 (by omega)) (k0 13 (by omega)) (k0 14 (by omega)) (k0 15 (by omega))⟩⟩)
        · rw [decide_eq_false (show ¬ L[i] = [k, v][0] from he)] at c4
          refine .inl ⟨_, selR_at ((sel_br c1).trans ((sel_must c2).trans ((sel_must c3).trans ((sel_br c4).trans rfl)))), h, fun j hj => ?_, ?_, take_mem h k2 he⟩
          · rw [← k0 j hj]
            have : j = 16 ∨ j = 15 ∨ j < 15 := by omega
            rcases this with rfl | rfl | h15
            · rfl
            · rfl
            · exact all15 (P := fun j => envOf (S := S.at e) _ j = e j) rfl rfl rfl rfl rfl rfl rfl rfl rfl rfl rfl rfl rfl rfl rfl j h15
          · show PV.int (IntKind.i64.wrap ((e 17).i + 1)) = _
            rw [k1]
            show PV.int (IntKind.i64.wrap ((i : Int) + 1)) = _
            rw [i64_add1 (by omega) (by omega)]
            rfl
      · rw [decide_eq_false (show ¬ (i : Int) < (L.length : Int) by omega)] at c1
        refine .inr (.inl ⟨0, _, by omega, selR_at ((sel_br c1).trans rfl), .inr ⟨?_, _, rfl, fun j hj => ?_⟩⟩)
        · rw [List.take_of_length_le (by omega)] at k2
          exact k2
        · rw [← k0 j hj]
          have : j = 16 ∨ j = 15 ∨ j < 15 := by omega
          rcases this with rfl | rfl | h15
          · rfl
          · rfl
          · exact all15 (P := fun j => envOf (S := S.at e) _ j = e j) rfl rfl rfl rfl rfl rfl rfl rfl rfl rfl rfl rfl rfl rfl rfl j h15)
    L.length 0 (@envOf (S.at env) [.var 0, .var 1, .var 2, .var 3, .var 4, .var 5, .var 6, .var 7, .var 8, .var 9, .var 10, .var 11, .var 12, .var 13, .var 14, .var 15, .var 16, .int 0]) (by omega) ⟨fun j hj => by
      have : j = 16 ∨ j = 15 ∨ j < 15 := by omega
      rcases this with rfl | rfl | h15
      · rfl
      · rfl
      · exact all15 (P := fun j => envOf (S := S.at env) _ j = env j) rfl rfl rfl rfl rfl rfl rfl rfl rfl rfl rfl rfl rfl rfl rfl j h15, rfl, by simp⟩
  have h3 : ThenE 1 1 (selR ml_t47) (fun _ => ml_L7) env out := then_on (selR_at (T := ml_t47) rfl) (by omega) h1
  unfold TailOut
  rcases h2 with ⟨hin, e, rfl, h4⟩ | ⟨hin, e, rfl, h4⟩
  · refine ⟨_, then_out (nL := 1) (nH := 0) (j := 0) (e := e) h3, ?_⟩
    rw [if_pos (inL_iff.2 hin)]
    exact h4
  · have gW := hK e (h4 0 (by omega))
    have g16 : e 16 = .lst (L.map PV.str) := (h4 16 (by omega)).trans h16
    have c1 := minb gW 1 (show 1 < 2 by omega)
    have hV : @Xp.den (S.at e) mV = .str v := mget gW 1 (show 1 < 2 by omega)
    have hKK : @Xp.den (S.at e) mK = .str k := mget gW 0 (show 0 < 2 by omega)
    have c2 : @Xp.den (S.at e) (.app 34 (.cons mV (.nil))) = .bool true := by
      show S.fn 34 [@Xp.den (S.at e) mV] = _
      rw [hV, hS.numpre]
      exact congrArg PV.bool (decide_eq_true (by show v.size ≤ maxLen; unfold maxLen; omega))
    have c3 : @Xp.den (S.at e) (.cell (.app 4 (.cons mV (.nil))) 1) = .bool (numOk (LL v)) := by
      show (S.fn 4 [@Xp.den (S.at e) mV]).cl 1 = _
      rw [hV, hS.num]
      rfl
    have c3n : @Xp.den (S.at e) (.cell (.app 4 (.cons mV (.nil))) 0) = .int (numI (LL v)) := by
      show (S.fn 4 [@Xp.den (S.at e) mV]).cl 0 = _
      rw [hV, hS.num]
      rfl
    cases hn : numOk (LL v) with
    | true =>
      rw [hn] at c3
      refine ⟨_, then_on h3 (by omega) (selR_at (T := ml_t51) ((sel_must c1).trans ((sel_must c2).trans ((sel_br c3).trans ((sel_must (minb gW 0 (show 0 < 2 by omega))).trans ((sel_must (mrng g16 hL)).trans rfl)))))), ?_⟩
      rw [if_neg (fun h => hin (inL_iff.1 h)), if_pos rfl]
      refine ⟨_, rfl, rfl, ?_, all15 (h4 1 (by omega)) (h4 2 (by omega)) (h4 3 (by omega)) (h4 4 (by omega)) (h4 5 (by omega)) (h4 6 (by omega)) c3n (h4 8 (by omega)) (h4 9 (by omega)) (h4 10 (by omega)) (h4 11 (by omega)) (h4 12 (by omega)) (h4 13 (by omega)) (h4 14 (by omega)) (h4 15 (by omega))⟩
      show PV.lst ((e 16).l ++ [@Xp.den (S.at e) mK]) = _
      rw [g16, hKK, List.map_append]
      rfl
    | false =>
      rw [hn] at c3
      refine ⟨_, then_on h3 (by omega) (selR_at (T := ml_t51) ((sel_must c1).trans ((sel_must c2).trans ((sel_br c3).trans rfl)))), ?_⟩
      rw [if_neg (fun h => hin (inL_iff.1 h)), if_neg (by decide)]
      exact ⟨_, rfl, rfl, g16, all15 (h4 1 (by omega)) (h4 2 (by omega)) (h4 3 (by omega)) (h4 4 (by omega)) (h4 5 (by omega)) (h4 6 (by omega)) (h4 7 (by omega)) (h4 8 (by omega)) (h4 9 (by omega)) (h4 10 (by omega)) (h4 11 (by omega)) (h4 12 (by omega)) (h4 13 (by omega)) (h4 14 (by omega)) (h4 15 (by omega))⟩
theorem ml_tail7 (hS : MlS S) (env : Env) (k v : ByteArray) (L : List ByteArray) (hW : @Xp.den (S.at env) mW = .lst ([k, v].map PV.str)) (h16 : env 16 = .lst (L.map PV.str)) (hL : L.length ≤ 60000) (hv : v.size ≤ 60000) : ∃ out, ml_M92_7 env out ∧ TailOut env 7 k v L out := by
  have hK : ∀ e : Env, e 0 = env 0 → @Xp.den (S.at e) mW = .lst ([k, v].map PV.str) := fun e h0 => by
    rw [← hW]
    show S.fn 3 [e 0] = S.fn 3 [env 0]
    rw [h0]
  obtain ⟨out, h1, h2⟩ := loop_run (nE := 2) (R := fun _ => ml_B8) (fun i e => (∀ j, j ≤ 16 → e j = env j) ∧ e 17 = .int i ∧ k ∉ L.take i) (fun out => (k ∈ L ∧ ∃ e, out = .inl (1, e) ∧ LnOut 12 (fun j => env (j + 1)) L (.inl (0, e))) ∨ (k ∉ L ∧ ∃ e, out = .inl (0, e) ∧ ∀ j, j ≤ 16 → e j = env j)) L.length
    (fun i e hi ⟨k0, k1, k2⟩ => by
      have g16 : e 16 = .lst (L.map PV.str) := (k0 16 (by omega)).trans h16
      have gW := hK e (k0 0 (by omega))
      have c1 := mlss g16 i k1
      by_cases h : i < L.length
      · rw [decide_eq_true (show (i : Int) < (L.length : Int) by omega)] at c1
        have c2 := minb2 g16 i k1 h
        have c3 := minb gW 0 (show 0 < 2 by omega)
        have c4 := meq2 g16 i k1 h (mget gW 0 (show 0 < 2 by omega))
        by_cases he : L[i] = k
        · rw [decide_eq_true (show L[i] = [k, v][0] from he)] at c4
          refine .inr (.inl ⟨1, _, by omega, selR_at ((sel_br c1).trans ((sel_must c2).trans ((sel_must c3).trans ((sel_br c4).trans rfl)))), .inl ⟨he ▸ List.getElem_mem h, _, rfl, _, rfl, rfl, g16, all15 (k0 1 (by omega)) (k0 2 (by omega)) (k0 3 (by omega)) (k0 4 (by omega)) (k0 5 (by omega)) (k0 6 (by omega)) (k0 7 (by omega)) (k0 8 (by omega)) (k0 9 (by omega)) (k0 10 (by omega)) (k0 11 (by omega)) (k0 12 (by omega)) (k0 13 (by omega)) (k0 14 (by omega)) (k0 15 (by omega))⟩⟩)
        · rw [decide_eq_false (show ¬ L[i] = [k, v][0] from he)] at c4
          refine .inl ⟨_, selR_at ((sel_br c1).trans ((sel_must c2).trans ((sel_must c3).trans ((sel_br c4).trans rfl)))), h, fun j hj => ?_, ?_, take_mem h k2 he⟩
          · rw [← k0 j hj]
            have : j = 16 ∨ j = 15 ∨ j < 15 := by omega
            rcases this with rfl | rfl | h15
            · rfl
            · rfl
            · exact all15 (P := fun j => envOf (S := S.at e) _ j = e j) rfl rfl rfl rfl rfl rfl rfl rfl rfl rfl rfl rfl rfl rfl rfl j h15
          · show PV.int (IntKind.i64.wrap ((e 17).i + 1)) = _
            rw [k1]
            show PV.int (IntKind.i64.wrap ((i : Int) + 1)) = _
            rw [i64_add1 (by omega) (by omega)]
            rfl
      · rw [decide_eq_false (show ¬ (i : Int) < (L.length : Int) by omega)] at c1
        refine .inr (.inl ⟨0, _, by omega, selR_at ((sel_br c1).trans rfl), .inr ⟨?_, _, rfl, fun j hj => ?_⟩⟩)
        · rw [List.take_of_length_le (by omega)] at k2
          exact k2
        · rw [← k0 j hj]
          have : j = 16 ∨ j = 15 ∨ j < 15 := by omega
          rcases this with rfl | rfl | h15
          · rfl
          · rfl
          · exact all15 (P := fun j => envOf (S := S.at e) _ j = e j) rfl rfl rfl rfl rfl rfl rfl rfl rfl rfl rfl rfl rfl rfl rfl j h15)
    L.length 0 (@envOf (S.at env) [.var 0, .var 1, .var 2, .var 3, .var 4, .var 5, .var 6, .var 7, .var 8, .var 9, .var 10, .var 11, .var 12, .var 13, .var 14, .var 15, .var 16, .int 0]) (by omega) ⟨fun j hj => by
      have : j = 16 ∨ j = 15 ∨ j < 15 := by omega
      rcases this with rfl | rfl | h15
      · rfl
      · rfl
      · exact all15 (P := fun j => envOf (S := S.at env) _ j = env j) rfl rfl rfl rfl rfl rfl rfl rfl rfl rfl rfl rfl rfl rfl rfl j h15, rfl, by simp⟩
  have h3 : ThenE 1 1 (selR ml_t52) (fun _ => ml_L8) env out := then_on (selR_at (T := ml_t52) rfl) (by omega) h1
  unfold TailOut
  rcases h2 with ⟨hin, e, rfl, h4⟩ | ⟨hin, e, rfl, h4⟩
  · refine ⟨_, then_out (nL := 1) (nH := 0) (j := 0) (e := e) h3, ?_⟩
    rw [if_pos (inL_iff.2 hin)]
    exact h4
  · have gW := hK e (h4 0 (by omega))
    have g16 : e 16 = .lst (L.map PV.str) := (h4 16 (by omega)).trans h16
    have c1 := minb gW 1 (show 1 < 2 by omega)
    have hV : @Xp.den (S.at e) mV = .str v := mget gW 1 (show 1 < 2 by omega)
    have hKK : @Xp.den (S.at e) mK = .str k := mget gW 0 (show 0 < 2 by omega)
    have c2 : @Xp.den (S.at e) (.app 34 (.cons mV (.nil))) = .bool true := by
      show S.fn 34 [@Xp.den (S.at e) mV] = _
      rw [hV, hS.numpre]
      exact congrArg PV.bool (decide_eq_true (by show v.size ≤ maxLen; unfold maxLen; omega))
    have c3 : @Xp.den (S.at e) (.cell (.app 4 (.cons mV (.nil))) 1) = .bool (numOk (LL v)) := by
      show (S.fn 4 [@Xp.den (S.at e) mV]).cl 1 = _
      rw [hV, hS.num]
      rfl
    have c3n : @Xp.den (S.at e) (.cell (.app 4 (.cons mV (.nil))) 0) = .int (numI (LL v)) := by
      show (S.fn 4 [@Xp.den (S.at e) mV]).cl 0 = _
      rw [hV, hS.num]
      rfl
    cases hn : numOk (LL v) with
    | true =>
      rw [hn] at c3
      refine ⟨_, then_on h3 (by omega) (selR_at (T := ml_t56) ((sel_must c1).trans ((sel_must c2).trans ((sel_br c3).trans ((sel_must (minb gW 0 (show 0 < 2 by omega))).trans ((sel_must (mrng g16 hL)).trans rfl)))))), ?_⟩
      rw [if_neg (fun h => hin (inL_iff.1 h)), if_pos rfl]
      refine ⟨_, rfl, rfl, ?_, all15 (h4 1 (by omega)) (h4 2 (by omega)) (h4 3 (by omega)) (h4 4 (by omega)) (h4 5 (by omega)) (h4 6 (by omega)) (h4 7 (by omega)) c3n (h4 9 (by omega)) (h4 10 (by omega)) (h4 11 (by omega)) (h4 12 (by omega)) (h4 13 (by omega)) (h4 14 (by omega)) (h4 15 (by omega))⟩
      show PV.lst ((e 16).l ++ [@Xp.den (S.at e) mK]) = _
      rw [g16, hKK, List.map_append]
      rfl
    | false =>
      rw [hn] at c3
      refine ⟨_, then_on h3 (by omega) (selR_at (T := ml_t56) ((sel_must c1).trans ((sel_must c2).trans ((sel_br c3).trans rfl)))), ?_⟩
      rw [if_neg (fun h => hin (inL_iff.1 h)), if_neg (by decide)]
      exact ⟨_, rfl, rfl, g16, all15 (h4 1 (by omega)) (h4 2 (by omega)) (h4 3 (by omega)) (h4 4 (by omega)) (h4 5 (by omega)) (h4 6 (by omega)) (h4 7 (by omega)) (h4 8 (by omega)) (h4 9 (by omega)) (h4 10 (by omega)) (h4 11 (by omega)) (h4 12 (by omega)) (h4 13 (by omega)) (h4 14 (by omega)) (h4 15 (by omega))⟩
theorem ml_tail8 (hS : MlS S) (env : Env) (k v : ByteArray) (L : List ByteArray) (hW : @Xp.den (S.at env) mW = .lst ([k, v].map PV.str)) (h16 : env 16 = .lst (L.map PV.str)) (hL : L.length ≤ 60000) (hv : v.size ≤ 60000) : ∃ out, ml_M92_8 env out ∧ TailOut env 8 k v L out := by
  have hK : ∀ e : Env, e 0 = env 0 → @Xp.den (S.at e) mW = .lst ([k, v].map PV.str) := fun e h0 => by
    rw [← hW]
    show S.fn 3 [e 0] = S.fn 3 [env 0]
    rw [h0]
  obtain ⟨out, h1, h2⟩ := loop_run (nE := 2) (R := fun _ => ml_B9) (fun i e => (∀ j, j ≤ 16 → e j = env j) ∧ e 17 = .int i ∧ k ∉ L.take i) (fun out => (k ∈ L ∧ ∃ e, out = .inl (1, e) ∧ LnOut 12 (fun j => env (j + 1)) L (.inl (0, e))) ∨ (k ∉ L ∧ ∃ e, out = .inl (0, e) ∧ ∀ j, j ≤ 16 → e j = env j)) L.length
    (fun i e hi ⟨k0, k1, k2⟩ => by
      have g16 : e 16 = .lst (L.map PV.str) := (k0 16 (by omega)).trans h16
      have gW := hK e (k0 0 (by omega))
      have c1 := mlss g16 i k1
      by_cases h : i < L.length
      · rw [decide_eq_true (show (i : Int) < (L.length : Int) by omega)] at c1
        have c2 := minb2 g16 i k1 h
        have c3 := minb gW 0 (show 0 < 2 by omega)
        have c4 := meq2 g16 i k1 h (mget gW 0 (show 0 < 2 by omega))
        by_cases he : L[i] = k
        · rw [decide_eq_true (show L[i] = [k, v][0] from he)] at c4
          refine .inr (.inl ⟨1, _, by omega, selR_at ((sel_br c1).trans ((sel_must c2).trans ((sel_must c3).trans ((sel_br c4).trans rfl)))), .inl ⟨he ▸ List.getElem_mem h, _, rfl, _, rfl, rfl, g16, all15 (k0 1 (by omega)) (k0 2 (by omega)) (k0 3 (by omega)) (k0 4 (by omega)) (k0 5 (by omega)) (k0 6 (by omega)) (k0 7 (by omega)) (k0 8 (by omega)) (k0 9 (by omega)) (k0 10 (by omega)) (k0 11 (by omega)) (k0 12 (by omega)) (k0 13 (by omega)) (k0 14 (by omega)) (k0 15 (by omega))⟩⟩)
        · rw [decide_eq_false (show ¬ L[i] = [k, v][0] from he)] at c4
          refine .inl ⟨_, selR_at ((sel_br c1).trans ((sel_must c2).trans ((sel_must c3).trans ((sel_br c4).trans rfl)))), h, fun j hj => ?_, ?_, take_mem h k2 he⟩
          · rw [← k0 j hj]
            have : j = 16 ∨ j = 15 ∨ j < 15 := by omega
            rcases this with rfl | rfl | h15
            · rfl
            · rfl
            · exact all15 (P := fun j => envOf (S := S.at e) _ j = e j) rfl rfl rfl rfl rfl rfl rfl rfl rfl rfl rfl rfl rfl rfl rfl j h15
          · show PV.int (IntKind.i64.wrap ((e 17).i + 1)) = _
            rw [k1]
            show PV.int (IntKind.i64.wrap ((i : Int) + 1)) = _
            rw [i64_add1 (by omega) (by omega)]
            rfl
      · rw [decide_eq_false (show ¬ (i : Int) < (L.length : Int) by omega)] at c1
        refine .inr (.inl ⟨0, _, by omega, selR_at ((sel_br c1).trans rfl), .inr ⟨?_, _, rfl, fun j hj => ?_⟩⟩)
        · rw [List.take_of_length_le (by omega)] at k2
          exact k2
        · rw [← k0 j hj]
          have : j = 16 ∨ j = 15 ∨ j < 15 := by omega
          rcases this with rfl | rfl | h15
          · rfl
          · rfl
          · exact all15 (P := fun j => envOf (S := S.at e) _ j = e j) rfl rfl rfl rfl rfl rfl rfl rfl rfl rfl rfl rfl rfl rfl rfl j h15)
    L.length 0 (@envOf (S.at env) [.var 0, .var 1, .var 2, .var 3, .var 4, .var 5, .var 6, .var 7, .var 8, .var 9, .var 10, .var 11, .var 12, .var 13, .var 14, .var 15, .var 16, .int 0]) (by omega) ⟨fun j hj => by
      have : j = 16 ∨ j = 15 ∨ j < 15 := by omega
      rcases this with rfl | rfl | h15
      · rfl
      · rfl
      · exact all15 (P := fun j => envOf (S := S.at env) _ j = env j) rfl rfl rfl rfl rfl rfl rfl rfl rfl rfl rfl rfl rfl rfl rfl j h15, rfl, by simp⟩
  have h3 : ThenE 1 1 (selR ml_t57) (fun _ => ml_L9) env out := then_on (selR_at (T := ml_t57) rfl) (by omega) h1
  unfold TailOut
  rcases h2 with ⟨hin, e, rfl, h4⟩ | ⟨hin, e, rfl, h4⟩
  · refine ⟨_, then_out (nL := 1) (nH := 0) (j := 0) (e := e) h3, ?_⟩
    rw [if_pos (inL_iff.2 hin)]
    exact h4
  · have gW := hK e (h4 0 (by omega))
    have g16 : e 16 = .lst (L.map PV.str) := (h4 16 (by omega)).trans h16
    have c1 := minb gW 1 (show 1 < 2 by omega)
    have hV : @Xp.den (S.at e) mV = .str v := mget gW 1 (show 1 < 2 by omega)
    have hKK : @Xp.den (S.at e) mK = .str k := mget gW 0 (show 0 < 2 by omega)
    have c2 : @Xp.den (S.at e) (.app 34 (.cons mV (.nil))) = .bool true := by
      show S.fn 34 [@Xp.den (S.at e) mV] = _
      rw [hV, hS.numpre]
      exact congrArg PV.bool (decide_eq_true (by show v.size ≤ maxLen; unfold maxLen; omega))
    have c3 : @Xp.den (S.at e) (.cell (.app 4 (.cons mV (.nil))) 1) = .bool (numOk (LL v)) := by
      show (S.fn 4 [@Xp.den (S.at e) mV]).cl 1 = _
      rw [hV, hS.num]
      rfl
    have c3n : @Xp.den (S.at e) (.cell (.app 4 (.cons mV (.nil))) 0) = .int (numI (LL v)) := by
      show (S.fn 4 [@Xp.den (S.at e) mV]).cl 0 = _
      rw [hV, hS.num]
      rfl
    cases hn : numOk (LL v) with
    | true =>
      rw [hn] at c3
      refine ⟨_, then_on h3 (by omega) (selR_at (T := ml_t61) ((sel_must c1).trans ((sel_must c2).trans ((sel_br c3).trans ((sel_must (minb gW 0 (show 0 < 2 by omega))).trans ((sel_must (mrng g16 hL)).trans rfl)))))), ?_⟩
      rw [if_neg (fun h => hin (inL_iff.1 h)), if_pos rfl]
      refine ⟨_, rfl, rfl, ?_, all15 (h4 1 (by omega)) (h4 2 (by omega)) (h4 3 (by omega)) (h4 4 (by omega)) (h4 5 (by omega)) (h4 6 (by omega)) (h4 7 (by omega)) (h4 8 (by omega)) c3n (h4 10 (by omega)) (h4 11 (by omega)) (h4 12 (by omega)) (h4 13 (by omega)) (h4 14 (by omega)) (h4 15 (by omega))⟩
      show PV.lst ((e 16).l ++ [@Xp.den (S.at e) mK]) = _
      rw [g16, hKK, List.map_append]
      rfl
    | false =>
      rw [hn] at c3
      refine ⟨_, then_on h3 (by omega) (selR_at (T := ml_t61) ((sel_must c1).trans ((sel_must c2).trans ((sel_br c3).trans rfl)))), ?_⟩
      rw [if_neg (fun h => hin (inL_iff.1 h)), if_neg (by decide)]
      exact ⟨_, rfl, rfl, g16, all15 (h4 1 (by omega)) (h4 2 (by omega)) (h4 3 (by omega)) (h4 4 (by omega)) (h4 5 (by omega)) (h4 6 (by omega)) (h4 7 (by omega)) (h4 8 (by omega)) (h4 9 (by omega)) (h4 10 (by omega)) (h4 11 (by omega)) (h4 12 (by omega)) (h4 13 (by omega)) (h4 14 (by omega)) (h4 15 (by omega))⟩
theorem ml_tail9 (hS : MlS S) (env : Env) (k v : ByteArray) (L : List ByteArray) (hW : @Xp.den (S.at env) mW = .lst ([k, v].map PV.str)) (h16 : env 16 = .lst (L.map PV.str)) (hL : L.length ≤ 60000) (hv : v.size ≤ 60000) : ∃ out, ml_M92_9 env out ∧ TailOut env 9 k v L out := by
  have hK : ∀ e : Env, e 0 = env 0 → @Xp.den (S.at e) mW = .lst ([k, v].map PV.str) := fun e h0 => by
    rw [← hW]
    show S.fn 3 [e 0] = S.fn 3 [env 0]
    rw [h0]
  obtain ⟨out, h1, h2⟩ := loop_run (nE := 2) (R := fun _ => ml_B10) (fun i e => (∀ j, j ≤ 16 → e j = env j) ∧ e 17 = .int i ∧ k ∉ L.take i) (fun out => (k ∈ L ∧ ∃ e, out = .inl (1, e) ∧ LnOut 12 (fun j => env (j + 1)) L (.inl (0, e))) ∨ (k ∉ L ∧ ∃ e, out = .inl (0, e) ∧ ∀ j, j ≤ 16 → e j = env j)) L.length
    (fun i e hi ⟨k0, k1, k2⟩ => by
      have g16 : e 16 = .lst (L.map PV.str) := (k0 16 (by omega)).trans h16
      have gW := hK e (k0 0 (by omega))
      have c1 := mlss g16 i k1
      by_cases h : i < L.length
      · rw [decide_eq_true (show (i : Int) < (L.length : Int) by omega)] at c1
        have c2 := minb2 g16 i k1 h
        have c3 := minb gW 0 (show 0 < 2 by omega)
        have c4 := meq2 g16 i k1 h (mget gW 0 (show 0 < 2 by omega))
        by_cases he : L[i] = k
        · rw [decide_eq_true (show L[i] = [k, v][0] from he)] at c4
          refine .inr (.inl ⟨1, _, by omega, selR_at ((sel_br c1).trans ((sel_must c2).trans ((sel_must c3).trans ((sel_br c4).trans rfl)))), .inl ⟨he ▸ List.getElem_mem h, _, rfl, _, rfl, rfl, g16, all15 (k0 1 (by omega)) (k0 2 (by omega)) (k0 3 (by omega)) (k0 4 (by omega)) (k0 5 (by omega)) (k0 6 (by omega)) (k0 7 (by omega)) (k0 8 (by omega)) (k0 9 (by omega)) (k0 10 (by omega)) (k0 11 (by omega)) (k0 12 (by omega)) (k0 13 (by omega)) (k0 14 (by omega)) (k0 15 (by omega))⟩⟩)
        · rw [decide_eq_false (show ¬ L[i] = [k, v][0] from he)] at c4
          refine .inl ⟨_, selR_at ((sel_br c1).trans ((sel_must c2).trans ((sel_must c3).trans ((sel_br c4).trans rfl)))), h, fun j hj => ?_, ?_, take_mem h k2 he⟩
          · rw [← k0 j hj]
            have : j = 16 ∨ j = 15 ∨ j < 15 := by omega
            rcases this with rfl | rfl | h15
            · rfl
            · rfl
            · exact all15 (P := fun j => envOf (S := S.at e) _ j = e j) rfl rfl rfl rfl rfl rfl rfl rfl rfl rfl rfl rfl rfl rfl rfl j h15
          · show PV.int (IntKind.i64.wrap ((e 17).i + 1)) = _
            rw [k1]
            show PV.int (IntKind.i64.wrap ((i : Int) + 1)) = _
            rw [i64_add1 (by omega) (by omega)]
            rfl
      · rw [decide_eq_false (show ¬ (i : Int) < (L.length : Int) by omega)] at c1
        refine .inr (.inl ⟨0, _, by omega, selR_at ((sel_br c1).trans rfl), .inr ⟨?_, _, rfl, fun j hj => ?_⟩⟩)
        · rw [List.take_of_length_le (by omega)] at k2
          exact k2
        · rw [← k0 j hj]
          have : j = 16 ∨ j = 15 ∨ j < 15 := by omega
          rcases this with rfl | rfl | h15
          · rfl
          · rfl
          · exact all15 (P := fun j => envOf (S := S.at e) _ j = e j) rfl rfl rfl rfl rfl rfl rfl rfl rfl rfl rfl rfl rfl rfl rfl j h15)
    L.length 0 (@envOf (S.at env) [.var 0, .var 1, .var 2, .var 3, .var 4, .var 5, .var 6, .var 7, .var 8, .var 9, .var 10, .var 11, .var 12, .var 13, .var 14, .var 15, .var 16, .int 0]) (by omega) ⟨fun j hj => by
      have : j = 16 ∨ j = 15 ∨ j < 15 := by omega
      rcases this with rfl | rfl | h15
      · rfl
      · rfl
      · exact all15 (P := fun j => envOf (S := S.at env) _ j = env j) rfl rfl rfl rfl rfl rfl rfl rfl rfl rfl rfl rfl rfl rfl rfl j h15, rfl, by simp⟩
  have h3 : ThenE 1 1 (selR ml_t62) (fun _ => ml_L10) env out := then_on (selR_at (T := ml_t62) rfl) (by omega) h1
  unfold TailOut
  rcases h2 with ⟨hin, e, rfl, h4⟩ | ⟨hin, e, rfl, h4⟩
  · refine ⟨_, then_out (nL := 1) (nH := 0) (j := 0) (e := e) h3, ?_⟩
    rw [if_pos (inL_iff.2 hin)]
    exact h4
  · have gW := hK e (h4 0 (by omega))
    have g16 : e 16 = .lst (L.map PV.str) := (h4 16 (by omega)).trans h16
    have c1 := minb gW 1 (show 1 < 2 by omega)
    have hV : @Xp.den (S.at e) mV = .str v := mget gW 1 (show 1 < 2 by omega)
    have hKK : @Xp.den (S.at e) mK = .str k := mget gW 0 (show 0 < 2 by omega)
    have c2 : @Xp.den (S.at e) (.app 34 (.cons mV (.nil))) = .bool true := by
      show S.fn 34 [@Xp.den (S.at e) mV] = _
      rw [hV, hS.numpre]
      exact congrArg PV.bool (decide_eq_true (by show v.size ≤ maxLen; unfold maxLen; omega))
    have c3 : @Xp.den (S.at e) (.cell (.app 4 (.cons mV (.nil))) 1) = .bool (numOk (LL v)) := by
      show (S.fn 4 [@Xp.den (S.at e) mV]).cl 1 = _
      rw [hV, hS.num]
      rfl
    have c3n : @Xp.den (S.at e) (.cell (.app 4 (.cons mV (.nil))) 0) = .int (numI (LL v)) := by
      show (S.fn 4 [@Xp.den (S.at e) mV]).cl 0 = _
      rw [hV, hS.num]
      rfl
    cases hn : numOk (LL v) with
    | true =>
      rw [hn] at c3
      refine ⟨_, then_on h3 (by omega) (selR_at (T := ml_t66) ((sel_must c1).trans ((sel_must c2).trans ((sel_br c3).trans ((sel_must (minb gW 0 (show 0 < 2 by omega))).trans ((sel_must (mrng g16 hL)).trans rfl)))))), ?_⟩
      rw [if_neg (fun h => hin (inL_iff.1 h)), if_pos rfl]
      refine ⟨_, rfl, rfl, ?_, all15 (h4 1 (by omega)) (h4 2 (by omega)) (h4 3 (by omega)) (h4 4 (by omega)) (h4 5 (by omega)) (h4 6 (by omega)) (h4 7 (by omega)) (h4 8 (by omega)) (h4 9 (by omega)) c3n (h4 11 (by omega)) (h4 12 (by omega)) (h4 13 (by omega)) (h4 14 (by omega)) (h4 15 (by omega))⟩
      show PV.lst ((e 16).l ++ [@Xp.den (S.at e) mK]) = _
      rw [g16, hKK, List.map_append]
      rfl
    | false =>
      rw [hn] at c3
      refine ⟨_, then_on h3 (by omega) (selR_at (T := ml_t66) ((sel_must c1).trans ((sel_must c2).trans ((sel_br c3).trans rfl)))), ?_⟩
      rw [if_neg (fun h => hin (inL_iff.1 h)), if_neg (by decide)]
      exact ⟨_, rfl, rfl, g16, all15 (h4 1 (by omega)) (h4 2 (by omega)) (h4 3 (by omega)) (h4 4 (by omega)) (h4 5 (by omega)) (h4 6 (by omega)) (h4 7 (by omega)) (h4 8 (by omega)) (h4 9 (by omega)) (h4 10 (by omega)) (h4 11 (by omega)) (h4 12 (by omega)) (h4 13 (by omega)) (h4 14 (by omega)) (h4 15 (by omega))⟩
theorem ml_tail10 (hS : MlS S) (env : Env) (k v : ByteArray) (L : List ByteArray) (hW : @Xp.den (S.at env) mW = .lst ([k, v].map PV.str)) (h16 : env 16 = .lst (L.map PV.str)) (hL : L.length ≤ 60000) (hv : v.size ≤ 60000) : ∃ out, ml_M92_10 env out ∧ TailOut env 10 k v L out := by
  have hK : ∀ e : Env, e 0 = env 0 → @Xp.den (S.at e) mW = .lst ([k, v].map PV.str) := fun e h0 => by
    rw [← hW]
    show S.fn 3 [e 0] = S.fn 3 [env 0]
    rw [h0]
  obtain ⟨out, h1, h2⟩ := loop_run (nE := 2) (R := fun _ => ml_B11) (fun i e => (∀ j, j ≤ 16 → e j = env j) ∧ e 17 = .int i ∧ k ∉ L.take i) (fun out => (k ∈ L ∧ ∃ e, out = .inl (1, e) ∧ LnOut 12 (fun j => env (j + 1)) L (.inl (0, e))) ∨ (k ∉ L ∧ ∃ e, out = .inl (0, e) ∧ ∀ j, j ≤ 16 → e j = env j)) L.length
    (fun i e hi ⟨k0, k1, k2⟩ => by
      have g16 : e 16 = .lst (L.map PV.str) := (k0 16 (by omega)).trans h16
      have gW := hK e (k0 0 (by omega))
      have c1 := mlss g16 i k1
      by_cases h : i < L.length
      · rw [decide_eq_true (show (i : Int) < (L.length : Int) by omega)] at c1
        have c2 := minb2 g16 i k1 h
        have c3 := minb gW 0 (show 0 < 2 by omega)
        have c4 := meq2 g16 i k1 h (mget gW 0 (show 0 < 2 by omega))
        by_cases he : L[i] = k
        · rw [decide_eq_true (show L[i] = [k, v][0] from he)] at c4
          refine .inr (.inl ⟨1, _, by omega, selR_at ((sel_br c1).trans ((sel_must c2).trans ((sel_must c3).trans ((sel_br c4).trans rfl)))), .inl ⟨he ▸ List.getElem_mem h, _, rfl, _, rfl, rfl, g16, all15 (k0 1 (by omega)) (k0 2 (by omega)) (k0 3 (by omega)) (k0 4 (by omega)) (k0 5 (by omega)) (k0 6 (by omega)) (k0 7 (by omega)) (k0 8 (by omega)) (k0 9 (by omega)) (k0 10 (by omega)) (k0 11 (by omega)) (k0 12 (by omega)) (k0 13 (by omega)) (k0 14 (by omega)) (k0 15 (by omega))⟩⟩)
        · rw [decide_eq_false (show ¬ L[i] = [k, v][0] from he)] at c4
          refine .inl ⟨_, selR_at ((sel_br c1).trans ((sel_must c2).trans ((sel_must c3).trans ((sel_br c4).trans rfl)))), h, fun j hj => ?_, ?_, take_mem h k2 he⟩
          · rw [← k0 j hj]
            have : j = 16 ∨ j = 15 ∨ j < 15 := by omega
            rcases this with rfl | rfl | h15
            · rfl
            · rfl
            · exact all15 (P := fun j => envOf (S := S.at e) _ j = e j) rfl rfl rfl rfl rfl rfl rfl rfl rfl rfl rfl rfl rfl rfl rfl j h15
          · show PV.int (IntKind.i64.wrap ((e 17).i + 1)) = _
            rw [k1]
            show PV.int (IntKind.i64.wrap ((i : Int) + 1)) = _
            rw [i64_add1 (by omega) (by omega)]
            rfl
      · rw [decide_eq_false (show ¬ (i : Int) < (L.length : Int) by omega)] at c1
        refine .inr (.inl ⟨0, _, by omega, selR_at ((sel_br c1).trans rfl), .inr ⟨?_, _, rfl, fun j hj => ?_⟩⟩)
        · rw [List.take_of_length_le (by omega)] at k2
          exact k2
        · rw [← k0 j hj]
          have : j = 16 ∨ j = 15 ∨ j < 15 := by omega
          rcases this with rfl | rfl | h15
          · rfl
          · rfl
          · exact all15 (P := fun j => envOf (S := S.at e) _ j = e j) rfl rfl rfl rfl rfl rfl rfl rfl rfl rfl rfl rfl rfl rfl rfl j h15)
    L.length 0 (@envOf (S.at env) [.var 0, .var 1, .var 2, .var 3, .var 4, .var 5, .var 6, .var 7, .var 8, .var 9, .var 10, .var 11, .var 12, .var 13, .var 14, .var 15, .var 16, .int 0]) (by omega) ⟨fun j hj => by
      have : j = 16 ∨ j = 15 ∨ j < 15 := by omega
      rcases this with rfl | rfl | h15
      · rfl
      · rfl
      · exact all15 (P := fun j => envOf (S := S.at env) _ j = env j) rfl rfl rfl rfl rfl rfl rfl rfl rfl rfl rfl rfl rfl rfl rfl j h15, rfl, by simp⟩
  have h3 : ThenE 1 1 (selR ml_t67) (fun _ => ml_L11) env out := then_on (selR_at (T := ml_t67) rfl) (by omega) h1
  unfold TailOut
  rcases h2 with ⟨hin, e, rfl, h4⟩ | ⟨hin, e, rfl, h4⟩
  · refine ⟨_, then_out (nL := 1) (nH := 0) (j := 0) (e := e) h3, ?_⟩
    rw [if_pos (inL_iff.2 hin)]
    exact h4
  · have gW := hK e (h4 0 (by omega))
    have g16 : e 16 = .lst (L.map PV.str) := (h4 16 (by omega)).trans h16
    have c1 := minb gW 1 (show 1 < 2 by omega)
    have hV : @Xp.den (S.at e) mV = .str v := mget gW 1 (show 1 < 2 by omega)
    have hKK : @Xp.den (S.at e) mK = .str k := mget gW 0 (show 0 < 2 by omega)
    have c2 : @Xp.den (S.at e) (.app 34 (.cons mV (.nil))) = .bool true := by
      show S.fn 34 [@Xp.den (S.at e) mV] = _
      rw [hV, hS.numpre]
      exact congrArg PV.bool (decide_eq_true (by show v.size ≤ maxLen; unfold maxLen; omega))
    have c3 : @Xp.den (S.at e) (.cell (.app 4 (.cons mV (.nil))) 1) = .bool (numOk (LL v)) := by
      show (S.fn 4 [@Xp.den (S.at e) mV]).cl 1 = _
      rw [hV, hS.num]
      rfl
    have c3n : @Xp.den (S.at e) (.cell (.app 4 (.cons mV (.nil))) 0) = .int (numI (LL v)) := by
      show (S.fn 4 [@Xp.den (S.at e) mV]).cl 0 = _
      rw [hV, hS.num]
      rfl
    cases hn : numOk (LL v) with
    | true =>
      rw [hn] at c3
      refine ⟨_, then_on h3 (by omega) (selR_at (T := ml_t71) ((sel_must c1).trans ((sel_must c2).trans ((sel_br c3).trans ((sel_must (minb gW 0 (show 0 < 2 by omega))).trans ((sel_must (mrng g16 hL)).trans rfl)))))), ?_⟩
      rw [if_neg (fun h => hin (inL_iff.1 h)), if_pos rfl]
      refine ⟨_, rfl, rfl, ?_, all15 (h4 1 (by omega)) (h4 2 (by omega)) (h4 3 (by omega)) (h4 4 (by omega)) (h4 5 (by omega)) (h4 6 (by omega)) (h4 7 (by omega)) (h4 8 (by omega)) (h4 9 (by omega)) (h4 10 (by omega)) c3n (h4 12 (by omega)) (h4 13 (by omega)) (h4 14 (by omega)) (h4 15 (by omega))⟩
      show PV.lst ((e 16).l ++ [@Xp.den (S.at e) mK]) = _
      rw [g16, hKK, List.map_append]
      rfl
    | false =>
      rw [hn] at c3
      refine ⟨_, then_on h3 (by omega) (selR_at (T := ml_t71) ((sel_must c1).trans ((sel_must c2).trans ((sel_br c3).trans rfl)))), ?_⟩
      rw [if_neg (fun h => hin (inL_iff.1 h)), if_neg (by decide)]
      exact ⟨_, rfl, rfl, g16, all15 (h4 1 (by omega)) (h4 2 (by omega)) (h4 3 (by omega)) (h4 4 (by omega)) (h4 5 (by omega)) (h4 6 (by omega)) (h4 7 (by omega)) (h4 8 (by omega)) (h4 9 (by omega)) (h4 10 (by omega)) (h4 11 (by omega)) (h4 12 (by omega)) (h4 13 (by omega)) (h4 14 (by omega)) (h4 15 (by omega))⟩
theorem ml_tail11 (hS : MlS S) (env : Env) (k v : ByteArray) (L : List ByteArray) (hW : @Xp.den (S.at env) mW = .lst ([k, v].map PV.str)) (h16 : env 16 = .lst (L.map PV.str)) (hL : L.length ≤ 60000) (hv : v.size ≤ 60000) : ∃ out, ml_M92_11 env out ∧ TailOut env 11 k v L out := by
  have hK : ∀ e : Env, e 0 = env 0 → @Xp.den (S.at e) mW = .lst ([k, v].map PV.str) := fun e h0 => by
    rw [← hW]
    show S.fn 3 [e 0] = S.fn 3 [env 0]
    rw [h0]
  obtain ⟨out, h1, h2⟩ := loop_run (nE := 2) (R := fun _ => ml_B12) (fun i e => (∀ j, j ≤ 16 → e j = env j) ∧ e 17 = .int i ∧ k ∉ L.take i) (fun out => (k ∈ L ∧ ∃ e, out = .inl (1, e) ∧ LnOut 12 (fun j => env (j + 1)) L (.inl (0, e))) ∨ (k ∉ L ∧ ∃ e, out = .inl (0, e) ∧ ∀ j, j ≤ 16 → e j = env j)) L.length
    (fun i e hi ⟨k0, k1, k2⟩ => by
      have g16 : e 16 = .lst (L.map PV.str) := (k0 16 (by omega)).trans h16
      have gW := hK e (k0 0 (by omega))
      have c1 := mlss g16 i k1
      by_cases h : i < L.length
      · rw [decide_eq_true (show (i : Int) < (L.length : Int) by omega)] at c1
        have c2 := minb2 g16 i k1 h
        have c3 := minb gW 0 (show 0 < 2 by omega)
        have c4 := meq2 g16 i k1 h (mget gW 0 (show 0 < 2 by omega))
        by_cases he : L[i] = k
        · rw [decide_eq_true (show L[i] = [k, v][0] from he)] at c4
          refine .inr (.inl ⟨1, _, by omega, selR_at ((sel_br c1).trans ((sel_must c2).trans ((sel_must c3).trans ((sel_br c4).trans rfl)))), .inl ⟨he ▸ List.getElem_mem h, _, rfl, _, rfl, rfl, g16, all15 (k0 1 (by omega)) (k0 2 (by omega)) (k0 3 (by omega)) (k0 4 (by omega)) (k0 5 (by omega)) (k0 6 (by omega)) (k0 7 (by omega)) (k0 8 (by omega)) (k0 9 (by omega)) (k0 10 (by omega)) (k0 11 (by omega)) (k0 12 (by omega)) (k0 13 (by omega)) (k0 14 (by omega)) (k0 15 (by omega))⟩⟩)
        · rw [decide_eq_false (show ¬ L[i] = [k, v][0] from he)] at c4
          refine .inl ⟨_, selR_at ((sel_br c1).trans ((sel_must c2).trans ((sel_must c3).trans ((sel_br c4).trans rfl)))), h, fun j hj => ?_, ?_, take_mem h k2 he⟩
          · rw [← k0 j hj]
            have : j = 16 ∨ j = 15 ∨ j < 15 := by omega
            rcases this with rfl | rfl | h15
            · rfl
            · rfl
            · exact all15 (P := fun j => envOf (S := S.at e) _ j = e j) rfl rfl rfl rfl rfl rfl rfl rfl rfl rfl rfl rfl rfl rfl rfl j h15
          · show PV.int (IntKind.i64.wrap ((e 17).i + 1)) = _
            rw [k1]
            show PV.int (IntKind.i64.wrap ((i : Int) + 1)) = _
            rw [i64_add1 (by omega) (by omega)]
            rfl
      · rw [decide_eq_false (show ¬ (i : Int) < (L.length : Int) by omega)] at c1
        refine .inr (.inl ⟨0, _, by omega, selR_at ((sel_br c1).trans rfl), .inr ⟨?_, _, rfl, fun j hj => ?_⟩⟩)
        · rw [List.take_of_length_le (by omega)] at k2
          exact k2
        · rw [← k0 j hj]
          have : j = 16 ∨ j = 15 ∨ j < 15 := by omega
          rcases this with rfl | rfl | h15
          · rfl
          · rfl
          · exact all15 (P := fun j => envOf (S := S.at e) _ j = e j) rfl rfl rfl rfl rfl rfl rfl rfl rfl rfl rfl rfl rfl rfl rfl j h15)
    L.length 0 (@envOf (S.at env) [.var 0, .var 1, .var 2, .var 3, .var 4, .var 5, .var 6, .var 7, .var 8, .var 9, .var 10, .var 11, .var 12, .var 13, .var 14, .var 15, .var 16, .int 0]) (by omega) ⟨fun j hj => by
      have : j = 16 ∨ j = 15 ∨ j < 15 := by omega
      rcases this with rfl | rfl | h15
      · rfl
      · rfl
      · exact all15 (P := fun j => envOf (S := S.at env) _ j = env j) rfl rfl rfl rfl rfl rfl rfl rfl rfl rfl rfl rfl rfl rfl rfl j h15, rfl, by simp⟩
  have h3 : ThenE 1 1 (selR ml_t72) (fun _ => ml_L12) env out := then_on (selR_at (T := ml_t72) rfl) (by omega) h1
  unfold TailOut
  rcases h2 with ⟨hin, e, rfl, h4⟩ | ⟨hin, e, rfl, h4⟩
  · refine ⟨_, then_out (nL := 1) (nH := 0) (j := 0) (e := e) h3, ?_⟩
    rw [if_pos (inL_iff.2 hin)]
    exact h4
  · have gW := hK e (h4 0 (by omega))
    have g16 : e 16 = .lst (L.map PV.str) := (h4 16 (by omega)).trans h16
    have c1 := minb gW 1 (show 1 < 2 by omega)
    have hV : @Xp.den (S.at e) mV = .str v := mget gW 1 (show 1 < 2 by omega)
    have hKK : @Xp.den (S.at e) mK = .str k := mget gW 0 (show 0 < 2 by omega)
    have c2 : @Xp.den (S.at e) (.app 34 (.cons mV (.nil))) = .bool true := by
      show S.fn 34 [@Xp.den (S.at e) mV] = _
      rw [hV, hS.numpre]
      exact congrArg PV.bool (decide_eq_true (by show v.size ≤ maxLen; unfold maxLen; omega))
    have c3 : @Xp.den (S.at e) (.cell (.app 4 (.cons mV (.nil))) 1) = .bool (numOk (LL v)) := by
      show (S.fn 4 [@Xp.den (S.at e) mV]).cl 1 = _
      rw [hV, hS.num]
      rfl
    have c3n : @Xp.den (S.at e) (.cell (.app 4 (.cons mV (.nil))) 0) = .int (numI (LL v)) := by
      show (S.fn 4 [@Xp.den (S.at e) mV]).cl 0 = _
      rw [hV, hS.num]
      rfl
    cases hn : numOk (LL v) with
    | true =>
      rw [hn] at c3
      refine ⟨_, then_on h3 (by omega) (selR_at (T := ml_t76) ((sel_must c1).trans ((sel_must c2).trans ((sel_br c3).trans ((sel_must (minb gW 0 (show 0 < 2 by omega))).trans ((sel_must (mrng g16 hL)).trans rfl)))))), ?_⟩
      rw [if_neg (fun h => hin (inL_iff.1 h)), if_pos rfl]
      refine ⟨_, rfl, rfl, ?_, all15 (h4 1 (by omega)) (h4 2 (by omega)) (h4 3 (by omega)) (h4 4 (by omega)) (h4 5 (by omega)) (h4 6 (by omega)) (h4 7 (by omega)) (h4 8 (by omega)) (h4 9 (by omega)) (h4 10 (by omega)) (h4 11 (by omega)) c3n (h4 13 (by omega)) (h4 14 (by omega)) (h4 15 (by omega))⟩
      show PV.lst ((e 16).l ++ [@Xp.den (S.at e) mK]) = _
      rw [g16, hKK, List.map_append]
      rfl
    | false =>
      rw [hn] at c3
      refine ⟨_, then_on h3 (by omega) (selR_at (T := ml_t76) ((sel_must c1).trans ((sel_must c2).trans ((sel_br c3).trans rfl)))), ?_⟩
      rw [if_neg (fun h => hin (inL_iff.1 h)), if_neg (by decide)]
      exact ⟨_, rfl, rfl, g16, all15 (h4 1 (by omega)) (h4 2 (by omega)) (h4 3 (by omega)) (h4 4 (by omega)) (h4 5 (by omega)) (h4 6 (by omega)) (h4 7 (by omega)) (h4 8 (by omega)) (h4 9 (by omega)) (h4 10 (by omega)) (h4 11 (by omega)) (h4 12 (by omega)) (h4 13 (by omega)) (h4 14 (by omega)) (h4 15 (by omega))⟩
theorem ml_tail12 (hS : MlS S) (env : Env) (k v : ByteArray) (L : List ByteArray) (hW : @Xp.den (S.at env) mW = .lst ([k, v].map PV.str)) (h16 : env 16 = .lst (L.map PV.str)) (hL : L.length ≤ 60000) (hv : v.size ≤ 60000) : ∃ out, ml_M92_12 env out ∧ TailOut env 12 k v L out := by
  have hK : ∀ e : Env, e 0 = env 0 → @Xp.den (S.at e) mW = .lst ([k, v].map PV.str) := fun e h0 => by
    rw [← hW]
    show S.fn 3 [e 0] = S.fn 3 [env 0]
    rw [h0]
  obtain ⟨out, h1, h2⟩ := loop_run (nE := 2) (R := fun _ => ml_B13) (fun i e => (∀ j, j ≤ 16 → e j = env j) ∧ e 17 = .int i ∧ k ∉ L.take i) (fun out => (k ∈ L ∧ ∃ e, out = .inl (1, e) ∧ LnOut 12 (fun j => env (j + 1)) L (.inl (0, e))) ∨ (k ∉ L ∧ ∃ e, out = .inl (0, e) ∧ ∀ j, j ≤ 16 → e j = env j)) L.length
    (fun i e hi ⟨k0, k1, k2⟩ => by
      have g16 : e 16 = .lst (L.map PV.str) := (k0 16 (by omega)).trans h16
      have gW := hK e (k0 0 (by omega))
      have c1 := mlss g16 i k1
      by_cases h : i < L.length
      · rw [decide_eq_true (show (i : Int) < (L.length : Int) by omega)] at c1
        have c2 := minb2 g16 i k1 h
        have c3 := minb gW 0 (show 0 < 2 by omega)
        have c4 := meq2 g16 i k1 h (mget gW 0 (show 0 < 2 by omega))
        by_cases he : L[i] = k
        · rw [decide_eq_true (show L[i] = [k, v][0] from he)] at c4
          refine .inr (.inl ⟨1, _, by omega, selR_at ((sel_br c1).trans ((sel_must c2).trans ((sel_must c3).trans ((sel_br c4).trans rfl)))), .inl ⟨he ▸ List.getElem_mem h, _, rfl, _, rfl, rfl, g16, all15 (k0 1 (by omega)) (k0 2 (by omega)) (k0 3 (by omega)) (k0 4 (by omega)) (k0 5 (by omega)) (k0 6 (by omega)) (k0 7 (by omega)) (k0 8 (by omega)) (k0 9 (by omega)) (k0 10 (by omega)) (k0 11 (by omega)) (k0 12 (by omega)) (k0 13 (by omega)) (k0 14 (by omega)) (k0 15 (by omega))⟩⟩)
        · rw [decide_eq_false (show ¬ L[i] = [k, v][0] from he)] at c4
          refine .inl ⟨_, selR_at ((sel_br c1).trans ((sel_must c2).trans ((sel_must c3).trans ((sel_br c4).trans rfl)))), h, fun j hj => ?_, ?_, take_mem h k2 he⟩
          · rw [← k0 j hj]
            have : j = 16 ∨ j = 15 ∨ j < 15 := by omega
            rcases this with rfl | rfl | h15
            · rfl
            · rfl
            · exact all15 (P := fun j => envOf (S := S.at e) _ j = e j) rfl rfl rfl rfl rfl rfl rfl rfl rfl rfl rfl rfl rfl rfl rfl j h15
          · show PV.int (IntKind.i64.wrap ((e 17).i + 1)) = _
            rw [k1]
            show PV.int (IntKind.i64.wrap ((i : Int) + 1)) = _
            rw [i64_add1 (by omega) (by omega)]
            rfl
      · rw [decide_eq_false (show ¬ (i : Int) < (L.length : Int) by omega)] at c1
        refine .inr (.inl ⟨0, _, by omega, selR_at ((sel_br c1).trans rfl), .inr ⟨?_, _, rfl, fun j hj => ?_⟩⟩)
        · rw [List.take_of_length_le (by omega)] at k2
          exact k2
        · rw [← k0 j hj]
          have : j = 16 ∨ j = 15 ∨ j < 15 := by omega
          rcases this with rfl | rfl | h15
          · rfl
          · rfl
          · exact all15 (P := fun j => envOf (S := S.at e) _ j = e j) rfl rfl rfl rfl rfl rfl rfl rfl rfl rfl rfl rfl rfl rfl rfl j h15)
    L.length 0 (@envOf (S.at env) [.var 0, .var 1, .var 2, .var 3, .var 4, .var 5, .var 6, .var 7, .var 8, .var 9, .var 10, .var 11, .var 12, .var 13, .var 14, .var 15, .var 16, .int 0]) (by omega) ⟨fun j hj => by
      have : j = 16 ∨ j = 15 ∨ j < 15 := by omega
      rcases this with rfl | rfl | h15
      · rfl
      · rfl
      · exact all15 (P := fun j => envOf (S := S.at env) _ j = env j) rfl rfl rfl rfl rfl rfl rfl rfl rfl rfl rfl rfl rfl rfl rfl j h15, rfl, by simp⟩
  have h3 : ThenE 1 1 (selR ml_t77) (fun _ => ml_L13) env out := then_on (selR_at (T := ml_t77) rfl) (by omega) h1
  unfold TailOut
  rcases h2 with ⟨hin, e, rfl, h4⟩ | ⟨hin, e, rfl, h4⟩
  · refine ⟨_, then_out (nL := 1) (nH := 0) (j := 0) (e := e) h3, ?_⟩
    rw [if_pos (inL_iff.2 hin)]
    exact h4
  · have gW := hK e (h4 0 (by omega))
    have g16 : e 16 = .lst (L.map PV.str) := (h4 16 (by omega)).trans h16
    have c1 := minb gW 1 (show 1 < 2 by omega)
    have hV : @Xp.den (S.at e) mV = .str v := mget gW 1 (show 1 < 2 by omega)
    have hKK : @Xp.den (S.at e) mK = .str k := mget gW 0 (show 0 < 2 by omega)
    have c2 : @Xp.den (S.at e) (.app 34 (.cons mV (.nil))) = .bool true := by
      show S.fn 34 [@Xp.den (S.at e) mV] = _
      rw [hV, hS.numpre]
      exact congrArg PV.bool (decide_eq_true (by show v.size ≤ maxLen; unfold maxLen; omega))
    have c3 : @Xp.den (S.at e) (.cell (.app 4 (.cons mV (.nil))) 1) = .bool (numOk (LL v)) := by
      show (S.fn 4 [@Xp.den (S.at e) mV]).cl 1 = _
      rw [hV, hS.num]
      rfl
    have c3n : @Xp.den (S.at e) (.cell (.app 4 (.cons mV (.nil))) 0) = .int (numI (LL v)) := by
      show (S.fn 4 [@Xp.den (S.at e) mV]).cl 0 = _
      rw [hV, hS.num]
      rfl
    cases hn : numOk (LL v) with
    | true =>
      rw [hn] at c3
      refine ⟨_, then_on h3 (by omega) (selR_at (T := ml_t81) ((sel_must c1).trans ((sel_must c2).trans ((sel_br c3).trans ((sel_must (minb gW 0 (show 0 < 2 by omega))).trans ((sel_must (mrng g16 hL)).trans rfl)))))), ?_⟩
      rw [if_neg (fun h => hin (inL_iff.1 h)), if_pos rfl]
      refine ⟨_, rfl, rfl, ?_, all15 (h4 1 (by omega)) (h4 2 (by omega)) (h4 3 (by omega)) (h4 4 (by omega)) (h4 5 (by omega)) (h4 6 (by omega)) (h4 7 (by omega)) (h4 8 (by omega)) (h4 9 (by omega)) (h4 10 (by omega)) (h4 11 (by omega)) (h4 12 (by omega)) c3n (h4 14 (by omega)) (h4 15 (by omega))⟩
      show PV.lst ((e 16).l ++ [@Xp.den (S.at e) mK]) = _
      rw [g16, hKK, List.map_append]
      rfl
    | false =>
      rw [hn] at c3
      refine ⟨_, then_on h3 (by omega) (selR_at (T := ml_t81) ((sel_must c1).trans ((sel_must c2).trans ((sel_br c3).trans rfl)))), ?_⟩
      rw [if_neg (fun h => hin (inL_iff.1 h)), if_neg (by decide)]
      exact ⟨_, rfl, rfl, g16, all15 (h4 1 (by omega)) (h4 2 (by omega)) (h4 3 (by omega)) (h4 4 (by omega)) (h4 5 (by omega)) (h4 6 (by omega)) (h4 7 (by omega)) (h4 8 (by omega)) (h4 9 (by omega)) (h4 10 (by omega)) (h4 11 (by omega)) (h4 12 (by omega)) (h4 13 (by omega)) (h4 14 (by omega)) (h4 15 (by omega))⟩
theorem ml_tail13 (hS : MlS S) (env : Env) (k v : ByteArray) (L : List ByteArray) (hW : @Xp.den (S.at env) mW = .lst ([k, v].map PV.str)) (h16 : env 16 = .lst (L.map PV.str)) (hL : L.length ≤ 60000) (hv : v.size ≤ 60000) : ∃ out, ml_M92_13 env out ∧ TailOut env 13 k v L out := by
  have hK : ∀ e : Env, e 0 = env 0 → @Xp.den (S.at e) mW = .lst ([k, v].map PV.str) := fun e h0 => by
    rw [← hW]
    show S.fn 3 [e 0] = S.fn 3 [env 0]
    rw [h0]
  obtain ⟨out, h1, h2⟩ := loop_run (nE := 2) (R := fun _ => ml_B14) (fun i e => (∀ j, j ≤ 16 → e j = env j) ∧ e 17 = .int i ∧ k ∉ L.take i) (fun out => (k ∈ L ∧ ∃ e, out = .inl (1, e) ∧ LnOut 12 (fun j => env (j + 1)) L (.inl (0, e))) ∨ (k ∉ L ∧ ∃ e, out = .inl (0, e) ∧ ∀ j, j ≤ 16 → e j = env j)) L.length
    (fun i e hi ⟨k0, k1, k2⟩ => by
      have g16 : e 16 = .lst (L.map PV.str) := (k0 16 (by omega)).trans h16
      have gW := hK e (k0 0 (by omega))
      have c1 := mlss g16 i k1
      by_cases h : i < L.length
      · rw [decide_eq_true (show (i : Int) < (L.length : Int) by omega)] at c1
        have c2 := minb2 g16 i k1 h
        have c3 := minb gW 0 (show 0 < 2 by omega)
        have c4 := meq2 g16 i k1 h (mget gW 0 (show 0 < 2 by omega))
        by_cases he : L[i] = k
        · rw [decide_eq_true (show L[i] = [k, v][0] from he)] at c4
          refine .inr (.inl ⟨1, _, by omega, selR_at ((sel_br c1).trans ((sel_must c2).trans ((sel_must c3).trans ((sel_br c4).trans rfl)))), .inl ⟨he ▸ List.getElem_mem h, _, rfl, _, rfl, rfl, g16, all15 (k0 1 (by omega)) (k0 2 (by omega)) (k0 3 (by omega)) (k0 4 (by omega)) (k0 5 (by omega)) (k0 6 (by omega)) (k0 7 (by omega)) (k0 8 (by omega)) (k0 9 (by omega)) (k0 10 (by omega)) (k0 11 (by omega)) (k0 12 (by omega)) (k0 13 (by omega)) (k0 14 (by omega)) (k0 15 (by omega))⟩⟩)
        · rw [decide_eq_false (show ¬ L[i] = [k, v][0] from he)] at c4
          refine .inl ⟨_, selR_at ((sel_br c1).trans ((sel_must c2).trans ((sel_must c3).trans ((sel_br c4).trans rfl)))), h, fun j hj => ?_, ?_, take_mem h k2 he⟩
          · rw [← k0 j hj]
            have : j = 16 ∨ j = 15 ∨ j < 15 := by omega
            rcases this with rfl | rfl | h15
            · rfl
            · rfl
            · exact all15 (P := fun j => envOf (S := S.at e) _ j = e j) rfl rfl rfl rfl rfl rfl rfl rfl rfl rfl rfl rfl rfl rfl rfl j h15
          · show PV.int (IntKind.i64.wrap ((e 17).i + 1)) = _
            rw [k1]
            show PV.int (IntKind.i64.wrap ((i : Int) + 1)) = _
            rw [i64_add1 (by omega) (by omega)]
            rfl
      · rw [decide_eq_false (show ¬ (i : Int) < (L.length : Int) by omega)] at c1
        refine .inr (.inl ⟨0, _, by omega, selR_at ((sel_br c1).trans rfl), .inr ⟨?_, _, rfl, fun j hj => ?_⟩⟩)
        · rw [List.take_of_length_le (by omega)] at k2
          exact k2
        · rw [← k0 j hj]
          have : j = 16 ∨ j = 15 ∨ j < 15 := by omega
          rcases this with rfl | rfl | h15
          · rfl
          · rfl
          · exact all15 (P := fun j => envOf (S := S.at e) _ j = e j) rfl rfl rfl rfl rfl rfl rfl rfl rfl rfl rfl rfl rfl rfl rfl j h15)
    L.length 0 (@envOf (S.at env) [.var 0, .var 1, .var 2, .var 3, .var 4, .var 5, .var 6, .var 7, .var 8, .var 9, .var 10, .var 11, .var 12, .var 13, .var 14, .var 15, .var 16, .int 0]) (by omega) ⟨fun j hj => by
      have : j = 16 ∨ j = 15 ∨ j < 15 := by omega
      rcases this with rfl | rfl | h15
      · rfl
      · rfl
      · exact all15 (P := fun j => envOf (S := S.at env) _ j = env j) rfl rfl rfl rfl rfl rfl rfl rfl rfl rfl rfl rfl rfl rfl rfl j h15, rfl, by simp⟩
  have h3 : ThenE 1 1 (selR ml_t82) (fun _ => ml_L14) env out := then_on (selR_at (T := ml_t82) rfl) (by omega) h1
  unfold TailOut
  rcases h2 with ⟨hin, e, rfl, h4⟩ | ⟨hin, e, rfl, h4⟩
  · refine ⟨_, then_out (nL := 1) (nH := 0) (j := 0) (e := e) h3, ?_⟩
    rw [if_pos (inL_iff.2 hin)]
    exact h4
  · have gW := hK e (h4 0 (by omega))
    have g16 : e 16 = .lst (L.map PV.str) := (h4 16 (by omega)).trans h16
    have c1 := minb gW 1 (show 1 < 2 by omega)
    have hV : @Xp.den (S.at e) mV = .str v := mget gW 1 (show 1 < 2 by omega)
    have hKK : @Xp.den (S.at e) mK = .str k := mget gW 0 (show 0 < 2 by omega)
    have c2 : @Xp.den (S.at e) (.app 34 (.cons mV (.nil))) = .bool true := by
      show S.fn 34 [@Xp.den (S.at e) mV] = _
      rw [hV, hS.numpre]
      exact congrArg PV.bool (decide_eq_true (by show v.size ≤ maxLen; unfold maxLen; omega))
    have c3 : @Xp.den (S.at e) (.cell (.app 4 (.cons mV (.nil))) 1) = .bool (numOk (LL v)) := by
      show (S.fn 4 [@Xp.den (S.at e) mV]).cl 1 = _
      rw [hV, hS.num]
      rfl
    have c3n : @Xp.den (S.at e) (.cell (.app 4 (.cons mV (.nil))) 0) = .int (numI (LL v)) := by
      show (S.fn 4 [@Xp.den (S.at e) mV]).cl 0 = _
      rw [hV, hS.num]
      rfl
    cases hn : numOk (LL v) with
    | true =>
      rw [hn] at c3
      refine ⟨_, then_on h3 (by omega) (selR_at (T := ml_t86) ((sel_must c1).trans ((sel_must c2).trans ((sel_br c3).trans ((sel_must (minb gW 0 (show 0 < 2 by omega))).trans ((sel_must (mrng g16 hL)).trans rfl)))))), ?_⟩
      rw [if_neg (fun h => hin (inL_iff.1 h)), if_pos rfl]
      refine ⟨_, rfl, rfl, ?_, all15 (h4 1 (by omega)) (h4 2 (by omega)) (h4 3 (by omega)) (h4 4 (by omega)) (h4 5 (by omega)) (h4 6 (by omega)) (h4 7 (by omega)) (h4 8 (by omega)) (h4 9 (by omega)) (h4 10 (by omega)) (h4 11 (by omega)) (h4 12 (by omega)) (h4 13 (by omega)) c3n (h4 15 (by omega))⟩
      show PV.lst ((e 16).l ++ [@Xp.den (S.at e) mK]) = _
      rw [g16, hKK, List.map_append]
      rfl
    | false =>
      rw [hn] at c3
      refine ⟨_, then_on h3 (by omega) (selR_at (T := ml_t86) ((sel_must c1).trans ((sel_must c2).trans ((sel_br c3).trans rfl)))), ?_⟩
      rw [if_neg (fun h => hin (inL_iff.1 h)), if_neg (by decide)]
      exact ⟨_, rfl, rfl, g16, all15 (h4 1 (by omega)) (h4 2 (by omega)) (h4 3 (by omega)) (h4 4 (by omega)) (h4 5 (by omega)) (h4 6 (by omega)) (h4 7 (by omega)) (h4 8 (by omega)) (h4 9 (by omega)) (h4 10 (by omega)) (h4 11 (by omega)) (h4 12 (by omega)) (h4 13 (by omega)) (h4 14 (by omega)) (h4 15 (by omega))⟩
theorem ml_tail14 (hS : MlS S) (env : Env) (k v : ByteArray) (L : List ByteArray) (hW : @Xp.den (S.at env) mW = .lst ([k, v].map PV.str)) (h16 : env 16 = .lst (L.map PV.str)) (hL : L.length ≤ 60000) (hv : v.size ≤ 60000) : ∃ out, ml_M92_14 env out ∧ TailOut env 14 k v L out := by
  have hK : ∀ e : Env, e 0 = env 0 → @Xp.den (S.at e) mW = .lst ([k, v].map PV.str) := fun e h0 => by
    rw [← hW]
    show S.fn 3 [e 0] = S.fn 3 [env 0]
    rw [h0]
  obtain ⟨out, h1, h2⟩ := loop_run (nE := 2) (R := fun _ => ml_B15) (fun i e => (∀ j, j ≤ 16 → e j = env j) ∧ e 17 = .int i ∧ k ∉ L.take i) (fun out => (k ∈ L ∧ ∃ e, out = .inl (1, e) ∧ LnOut 12 (fun j => env (j + 1)) L (.inl (0, e))) ∨ (k ∉ L ∧ ∃ e, out = .inl (0, e) ∧ ∀ j, j ≤ 16 → e j = env j)) L.length
    (fun i e hi ⟨k0, k1, k2⟩ => by
      have g16 : e 16 = .lst (L.map PV.str) := (k0 16 (by omega)).trans h16
      have gW := hK e (k0 0 (by omega))
      have c1 := mlss g16 i k1
      by_cases h : i < L.length
      · rw [decide_eq_true (show (i : Int) < (L.length : Int) by omega)] at c1
        have c2 := minb2 g16 i k1 h
        have c3 := minb gW 0 (show 0 < 2 by omega)
        have c4 := meq2 g16 i k1 h (mget gW 0 (show 0 < 2 by omega))
        by_cases he : L[i] = k
        · rw [decide_eq_true (show L[i] = [k, v][0] from he)] at c4
          refine .inr (.inl ⟨1, _, by omega, selR_at ((sel_br c1).trans ((sel_must c2).trans ((sel_must c3).trans ((sel_br c4).trans rfl)))), .inl ⟨he ▸ List.getElem_mem h, _, rfl, _, rfl, rfl, g16, all15 (k0 1 (by omega)) (k0 2 (by omega)) (k0 3 (by omega)) (k0 4 (by omega)) (k0 5 (by omega)) (k0 6 (by omega)) (k0 7 (by omega)) (k0 8 (by omega)) (k0 9 (by omega)) (k0 10 (by omega)) (k0 11 (by omega)) (k0 12 (by omega)) (k0 13 (by omega)) (k0 14 (by omega)) (k0 15 (by omega))⟩⟩)
        · rw [decide_eq_false (show ¬ L[i] = [k, v][0] from he)] at c4
          refine .inl ⟨_, selR_at ((sel_br c1).trans ((sel_must c2).trans ((sel_must c3).trans ((sel_br c4).trans rfl)))), h, fun j hj => ?_, ?_, take_mem h k2 he⟩
          · rw [← k0 j hj]
            have : j = 16 ∨ j = 15 ∨ j < 15 := by omega
            rcases this with rfl | rfl | h15
            · rfl
            · rfl
            · exact all15 (P := fun j => envOf (S := S.at e) _ j = e j) rfl rfl rfl rfl rfl rfl rfl rfl rfl rfl rfl rfl rfl rfl rfl j h15
          · show PV.int (IntKind.i64.wrap ((e 17).i + 1)) = _
            rw [k1]
            show PV.int (IntKind.i64.wrap ((i : Int) + 1)) = _
            rw [i64_add1 (by omega) (by omega)]
            rfl
      · rw [decide_eq_false (show ¬ (i : Int) < (L.length : Int) by omega)] at c1
        refine .inr (.inl ⟨0, _, by omega, selR_at ((sel_br c1).trans rfl), .inr ⟨?_, _, rfl, fun j hj => ?_⟩⟩)
        · rw [List.take_of_length_le (by omega)] at k2
          exact k2
        · rw [← k0 j hj]
          have : j = 16 ∨ j = 15 ∨ j < 15 := by omega
          rcases this with rfl | rfl | h15
          · rfl
          · rfl
          · exact all15 (P := fun j => envOf (S := S.at e) _ j = e j) rfl rfl rfl rfl rfl rfl rfl rfl rfl rfl rfl rfl rfl rfl rfl j h15)
    L.length 0 (@envOf (S.at env) [.var 0, .var 1, .var 2, .var 3, .var 4, .var 5, .var 6, .var 7, .var 8, .var 9, .var 10, .var 11, .var 12, .var 13, .var 14, .var 15, .var 16, .int 0]) (by omega) ⟨fun j hj => by
      have : j = 16 ∨ j = 15 ∨ j < 15 := by omega
      rcases this with rfl | rfl | h15
      · rfl
      · rfl
      · exact all15 (P := fun j => envOf (S := S.at env) _ j = env j) rfl rfl rfl rfl rfl rfl rfl rfl rfl rfl rfl rfl rfl rfl rfl j h15, rfl, by simp⟩
  have h3 : ThenE 1 1 (selR ml_t87) (fun _ => ml_L15) env out := then_on (selR_at (T := ml_t87) rfl) (by omega) h1
  unfold TailOut
  rcases h2 with ⟨hin, e, rfl, h4⟩ | ⟨hin, e, rfl, h4⟩
  · refine ⟨_, then_out (nL := 1) (nH := 0) (j := 0) (e := e) h3, ?_⟩
    rw [if_pos (inL_iff.2 hin)]
    exact h4
  · have gW := hK e (h4 0 (by omega))
    have g16 : e 16 = .lst (L.map PV.str) := (h4 16 (by omega)).trans h16
    have c1 := minb gW 1 (show 1 < 2 by omega)
    have hV : @Xp.den (S.at e) mV = .str v := mget gW 1 (show 1 < 2 by omega)
    have hKK : @Xp.den (S.at e) mK = .str k := mget gW 0 (show 0 < 2 by omega)
    have c2 : @Xp.den (S.at e) (.app 34 (.cons mV (.nil))) = .bool true := by
      show S.fn 34 [@Xp.den (S.at e) mV] = _
      rw [hV, hS.numpre]
      exact congrArg PV.bool (decide_eq_true (by show v.size ≤ maxLen; unfold maxLen; omega))
    have c3 : @Xp.den (S.at e) (.cell (.app 4 (.cons mV (.nil))) 1) = .bool (numOk (LL v)) := by
      show (S.fn 4 [@Xp.den (S.at e) mV]).cl 1 = _
      rw [hV, hS.num]
      rfl
    have c3n : @Xp.den (S.at e) (.cell (.app 4 (.cons mV (.nil))) 0) = .int (numI (LL v)) := by
      show (S.fn 4 [@Xp.den (S.at e) mV]).cl 0 = _
      rw [hV, hS.num]
      rfl
    cases hn : numOk (LL v) with
    | true =>
      rw [hn] at c3
      refine ⟨_, then_on h3 (by omega) (selR_at (T := ml_t91) ((sel_must c1).trans ((sel_must c2).trans ((sel_br c3).trans ((sel_must (minb gW 0 (show 0 < 2 by omega))).trans ((sel_must (mrng g16 hL)).trans rfl)))))), ?_⟩
      rw [if_neg (fun h => hin (inL_iff.1 h)), if_pos rfl]
      refine ⟨_, rfl, rfl, ?_, all15 (h4 1 (by omega)) (h4 2 (by omega)) (h4 3 (by omega)) (h4 4 (by omega)) (h4 5 (by omega)) (h4 6 (by omega)) (h4 7 (by omega)) (h4 8 (by omega)) (h4 9 (by omega)) (h4 10 (by omega)) (h4 11 (by omega)) (h4 12 (by omega)) (h4 13 (by omega)) (h4 14 (by omega)) c3n⟩
      show PV.lst ((e 16).l ++ [@Xp.den (S.at e) mK]) = _
      rw [g16, hKK, List.map_append]
      rfl
    | false =>
      rw [hn] at c3
      refine ⟨_, then_on h3 (by omega) (selR_at (T := ml_t91) ((sel_must c1).trans ((sel_must c2).trans ((sel_br c3).trans rfl)))), ?_⟩
      rw [if_neg (fun h => hin (inL_iff.1 h)), if_neg (by decide)]
      exact ⟨_, rfl, rfl, g16, all15 (h4 1 (by omega)) (h4 2 (by omega)) (h4 3 (by omega)) (h4 4 (by omega)) (h4 5 (by omega)) (h4 6 (by omega)) (h4 7 (by omega)) (h4 8 (by omega)) (h4 9 (by omega)) (h4 10 (by omega)) (h4 11 (by omega)) (h4 12 (by omega)) (h4 13 (by omega)) (h4 14 (by omega)) (h4 15 (by omega))⟩
theorem keyIx_none {k : ByteArray} (h : keyIx k = none) : ∀ j, j < 15 → bytesOf (keyAt j) ≠ k := by
  intro j hj he
  have := List.find?_eq_none.1 h j (List.mem_range.2 hj)
  exact this (decide_eq_true he)
theorem keyIx_some {k : ByteArray} {i : Nat} (h : keyIx k = some i) : i < 15 ∧ bytesOf (keyAt i) = k ∧ ∀ j, j < i → bytesOf (keyAt j) ≠ k := by
  unfold keyIx at h
  rw [List.find?_range_eq_some] at h
  obtain ⟨h1, h2, h3⟩ := h
  exact ⟨List.mem_range.1 h2, of_decide_eq_true h1, fun j hj he => by have := h3 j hj; simp [he] at this⟩
theorem ml_all (hS : MlS S) (env : Env) (L : List ByteArray) (hz : (env 0).s.size ≤ 60000) (h16 : env 16 = .lst (L.map PV.str)) (hL : L.length ≤ 60000) :
    ∃ out, ml_R env out ∧ LnOut (lineF (fun j => env (j + 1)) L (env 0).s).1 (lineF (fun j => env (j + 1)) L (env 0).s).2.1 (lineF (fun j => env (j + 1)) L (env 0).s).2.2 out := by
  have hW : @Xp.den (S.at env) mW = .lst ((wordsB (env 0).s).map PV.str) := by
    show S.fn 3 [env 0] = _
    rw [hS.words]
  have hsz : ∀ x ∈ wordsB (env 0).s, x.size ≤ 60000 := fun x hx => by
    have h1 := (List.mem_filter.1 hx).1
    have h2 := partsS_le (strL (cutL 35 (LL (env 0).s)).1) 32 x h1
    have h3 := cutS_le 35 (env 0).s
    omega
  have c1 : @Xp.den (S.at env) (.app 33 (.cons (.var 0) (.nil))) = .bool true := by
    show S.fn 33 [env 0] = _
    rw [hS.wordspre, decide_eq_true hz]
  have c2 := msize (S := S) (env := env) 200
  have c3 := mlen hW 0
  have c4 := mlen hW 2
  unfold lineF
  by_cases h200 : 200 < (env 0).s.size
  · rw [decide_eq_true (show (200 : Int) < ((env 0).s.size : Int) by omega)] at c2
    simp only [if_pos h200]
    exact ⟨_, then_out (nL := 15) (nH := 0) (j := 0) (selR_at (T := ml_t1) ((sel_must c1).trans ((sel_br c2).trans rfl))), _, rfl, rfl, h16, all15 rfl rfl rfl rfl rfl rfl rfl rfl rfl rfl rfl rfl rfl rfl rfl⟩
  rw [decide_eq_false (show ¬ (200 : Int) < ((env 0).s.size : Int) by omega)] at c2
  simp only [if_neg h200]
  generalize wordsB (env 0).s = W at hW hsz c3 c4
  match W, hW, hsz, c3, c4 with
  | [], hW, hsz, c3, c4 =>
    exact ⟨_, then_out (nL := 15) (nH := 0) (j := 0) (selR_at (T := ml_t1) ((sel_must c1).trans ((sel_br c2).trans ((sel_br (b := true) c3).trans rfl)))), _, rfl, rfl, h16, all15 rfl rfl rfl rfl rfl rfl rfl rfl rfl rfl rfl rfl rfl rfl rfl⟩
  | [k], hW, hsz, c3, c4 =>
    exact ⟨_, then_out (nL := 15) (nH := 0) (j := 0) (selR_at (T := ml_t1) ((sel_must c1).trans ((sel_br c2).trans ((sel_br (b := false) c3).trans ((sel_br (b := false) c4).trans rfl))))), _, rfl, rfl, h16, all15 rfl rfl rfl rfl rfl rfl rfl rfl rfl rfl rfl rfl rfl rfl rfl⟩
  | k :: v :: x :: r, hW, hsz, c3, c4 =>
    rw [decide_eq_false (by simp; omega)] at c3 c4
    exact ⟨_, then_out (nL := 15) (nH := 0) (j := 0) (selR_at (T := ml_t1) ((sel_must c1).trans ((sel_br c2).trans ((sel_br c3).trans ((sel_br c4).trans rfl))))), _, rfl, rfl, h16, all15 rfl rfl rfl rfl rfl rfl rfl rfl rfl rfl rfl rfl rfl rfl rfl⟩
  | [k, v], hW, hsz, c3, c4 =>
    have c5 := minb hW 0 (show 0 < 2 by omega)
    have hv := hsz v (by simp)
    have q := fun j => meq hW (show 0 < 2 by omega) j
    have qf : ∀ j, bytesOf (keyAt j) ≠ k → @Xp.den (S.at env) (.eqs (.str (keyAt j)) mK) = .bool false := fun j hj => (q j).trans (congrArg PV.bool (decide_eq_false hj))
    have qt : ∀ j, bytesOf (keyAt j) = k → @Xp.den (S.at env) (.eqs (.str (keyAt j)) mK) = .bool true := fun j hj => (q j).trans (congrArg PV.bool (decide_eq_true hj))
    have c3 : @Xp.den (S.at env) (.cmpi .eql (.lenl mW) (.int 0)) = .bool false := c3
    have c4 : @Xp.den (S.at env) (.cmpi .eql (.lenl mW) (.int 2)) = .bool true := c4
    dsimp only
    cases hk : keyIx k with
    | none =>
      have hn := keyIx_none hk
      exact ⟨_, then_out (nL := 15) (nH := 0) (j := 0) (selR_at (T := ml_t1) ((sel_must c1).trans ((sel_br c2).trans ((sel_br c3).trans ((sel_br c4).trans ((sel_must c5).trans ((sel_br (qf 0 (hn 0 (by omega)))).trans ((sel_br (qf 1 (hn 1 (by omega)))).trans ((sel_br (qf 2 (hn 2 (by omega)))).trans ((sel_br (qf 3 (hn 3 (by omega)))).trans ((sel_br (qf 4 (hn 4 (by omega)))).trans ((sel_br (qf 5 (hn 5 (by omega)))).trans ((sel_br (qf 6 (hn 6 (by omega)))).trans ((sel_br (qf 7 (hn 7 (by omega)))).trans ((sel_br (qf 8 (hn 8 (by omega)))).trans ((sel_br (qf 9 (hn 9 (by omega)))).trans ((sel_br (qf 10 (hn 10 (by omega)))).trans ((sel_br (qf 11 (hn 11 (by omega)))).trans ((sel_br (qf 12 (hn 12 (by omega)))).trans ((sel_br (qf 13 (hn 13 (by omega)))).trans ((sel_br (qf 14 (hn 14 (by omega)))).trans rfl))))))))))))))))))))), _, rfl, rfl, h16, all15 rfl rfl rfl rfl rfl rfl rfl rfl rfl rfl rfl rfl rfl rfl rfl⟩
    | some i =>
      obtain ⟨hi, he, hn⟩ := keyIx_some hk
      have tail : ∀ out, TailOut (@envOf (S.at env) mσ) i k v L out → LnOut (if inL k L = true then ((12 : Int), (fun j => env (j + 1)), L) else if numOk (LL v) = true then (0, (fun j => if j = i then .int (numI (LL v)) else env (j + 1)), L ++ [k]) else (8, (fun j => env (j + 1)), L)).1 (if inL k L = true then ((12 : Int), (fun j => env (j + 1)), L) else if numOk (LL v) = true then (0, (fun j => if j = i then .int (numI (LL v)) else env (j + 1)), L ++ [k]) else (8, (fun j => env (j + 1)), L)).2.1 (if inL k L = true then ((12 : Int), (fun j => env (j + 1)), L) else if numOk (LL v) = true then (0, (fun j => if j = i then .int (numI (LL v)) else env (j + 1)), L ++ [k]) else (8, (fun j => env (j + 1)), L)).2.2 out := fun out ht => by
        have e15 : ∀ j, j < 15 → @envOf (S.at env) mσ (j + 1) = env (j + 1) := all15 rfl rfl rfl rfl rfl rfl rfl rfl rfl rfl rfl rfl rfl rfl rfl
        have conv : ∀ {x c c' l}, (∀ j, j < 15 → c j = c' j) → LnOut x c l out → LnOut x c' l out := fun hc ⟨v, h1, h2, h3, h4⟩ => ⟨v, h1, h2, h3, fun j hj => (h4 j hj).trans (hc j hj)⟩
        unfold TailOut at ht
        split at ht
        · rename_i h; simp only [if_pos h]; exact conv e15 ht
        · rename_i h
          split at ht
          · rename_i h5; simp only [if_neg h, if_pos h5]; exact conv (fun j hj => by by_cases h6 : j = i; simp [h6]; simp [h6]; exact e15 j hj) ht
          · rename_i h5; simp only [if_neg h, if_neg h5]; exact conv e15 ht
      have hcases : i = 0 ∨ i = 1 ∨ i = 2 ∨ i = 3 ∨ i = 4 ∨ i = 5 ∨ i = 6 ∨ i = 7 ∨ i = 8 ∨ i = 9 ∨ i = 10 ∨ i = 11 ∨ i = 12 ∨ i = 13 ∨ i = 14 := by omega
      have hW' : @Xp.den (S.at (@envOf (S.at env) mσ)) mW = .lst ([k, v].map PV.str) := hW
      rcases hcases with rfl | rfl | rfl | rfl | rfl | rfl | rfl | rfl | rfl | rfl | rfl | rfl | rfl | rfl | rfl
      · obtain ⟨out, h1, h2⟩ := ml_tail0 hS (@envOf (S.at env) mσ) k v L hW' h16 hL hv
        exact ⟨out, then_on (k := 0) (selR_at (T := ml_t1) (σ := mσ) ((sel_must c1).trans ((sel_br c2).trans ((sel_br c3).trans ((sel_br c4).trans ((sel_must c5).trans ((sel_br (qt 0 he)).trans rfl))))))) (by omega) h1, tail out h2⟩
      · obtain ⟨out, h1, h2⟩ := ml_tail1 hS (@envOf (S.at env) mσ) k v L hW' h16 hL hv
        exact ⟨out, then_on (k := 1) (selR_at (T := ml_t1) (σ := mσ) ((sel_must c1).trans ((sel_br c2).trans ((sel_br c3).trans ((sel_br c4).trans ((sel_must c5).trans ((sel_br (qf 0 (hn 0 (by omega)))).trans ((sel_br (qt 1 he)).trans rfl)))))))) (by omega) h1, tail out h2⟩
      · obtain ⟨out, h1, h2⟩ := ml_tail2 hS (@envOf (S.at env) mσ) k v L hW' h16 hL hv
        exact ⟨out, then_on (k := 2) (selR_at (T := ml_t1) (σ := mσ) ((sel_must c1).trans ((sel_br c2).trans ((sel_br c3).trans ((sel_br c4).trans ((sel_must c5).trans ((sel_br (qf 0 (hn 0 (by omega)))).trans ((sel_br (qf 1 (hn 1 (by omega)))).trans ((sel_br (qt 2 he)).trans rfl))))))))) (by omega) h1, tail out h2⟩
      · obtain ⟨out, h1, h2⟩ := ml_tail3 hS (@envOf (S.at env) mσ) k v L hW' h16 hL hv
        exact ⟨out, then_on (k := 3) (selR_at (T := ml_t1) (σ := mσ) ((sel_must c1).trans ((sel_br c2).trans ((sel_br c3).trans ((sel_br c4).trans ((sel_must c5).trans ((sel_br (qf 0 (hn 0 (by omega)))).trans ((sel_br (qf 1 (hn 1 (by omega)))).trans ((sel_br (qf 2 (hn 2 (by omega)))).trans ((sel_br (qt 3 he)).trans rfl)))))))))) (by omega) h1, tail out h2⟩
      · obtain ⟨out, h1, h2⟩ := ml_tail4 hS (@envOf (S.at env) mσ) k v L hW' h16 hL hv
        exact ⟨out, then_on (k := 4) (selR_at (T := ml_t1) (σ := mσ) ((sel_must c1).trans ((sel_br c2).trans ((sel_br c3).trans ((sel_br c4).trans ((sel_must c5).trans ((sel_br (qf 0 (hn 0 (by omega)))).trans ((sel_br (qf 1 (hn 1 (by omega)))).trans ((sel_br (qf 2 (hn 2 (by omega)))).trans ((sel_br (qf 3 (hn 3 (by omega)))).trans ((sel_br (qt 4 he)).trans rfl))))))))))) (by omega) h1, tail out h2⟩
      · obtain ⟨out, h1, h2⟩ := ml_tail5 hS (@envOf (S.at env) mσ) k v L hW' h16 hL hv
        exact ⟨out, then_on (k := 5) (selR_at (T := ml_t1) (σ := mσ) ((sel_must c1).trans ((sel_br c2).trans ((sel_br c3).trans ((sel_br c4).trans ((sel_must c5).trans ((sel_br (qf 0 (hn 0 (by omega)))).trans ((sel_br (qf 1 (hn 1 (by omega)))).trans ((sel_br (qf 2 (hn 2 (by omega)))).trans ((sel_br (qf 3 (hn 3 (by omega)))).trans ((sel_br (qf 4 (hn 4 (by omega)))).trans ((sel_br (qt 5 he)).trans rfl)))))))))))) (by omega) h1, tail out h2⟩
      · obtain ⟨out, h1, h2⟩ := ml_tail6 hS (@envOf (S.at env) mσ) k v L hW' h16 hL hv
        exact ⟨out, then_on (k := 6) (selR_at (T := ml_t1) (σ := mσ) ((sel_must c1).trans ((sel_br c2).trans ((sel_br c3).trans ((sel_br c4).trans ((sel_must c5).trans ((sel_br (qf 0 (hn 0 (by omega)))).trans ((sel_br (qf 1 (hn 1 (by omega)))).trans ((sel_br (qf 2 (hn 2 (by omega)))).trans ((sel_br (qf 3 (hn 3 (by omega)))).trans ((sel_br (qf 4 (hn 4 (by omega)))).trans ((sel_br (qf 5 (hn 5 (by omega)))).trans ((sel_br (qt 6 he)).trans rfl))))))))))))) (by omega) h1, tail out h2⟩
      · obtain ⟨out, h1, h2⟩ := ml_tail7 hS (@envOf (S.at env) mσ) k v L hW' h16 hL hv
        exact ⟨out, then_on (k := 7) (selR_at (T := ml_t1) (σ := mσ) ((sel_must c1).trans ((sel_br c2).trans ((sel_br c3).trans ((sel_br c4).trans ((sel_must c5).trans ((sel_br (qf 0 (hn 0 (by omega)))).trans ((sel_br (qf 1 (hn 1 (by omega)))).trans ((sel_br (qf 2 (hn 2 (by omega)))).trans ((sel_br (qf 3 (hn 3 (by omega)))).trans ((sel_br (qf 4 (hn 4 (by omega)))).trans ((sel_br (qf 5 (hn 5 (by omega)))).trans ((sel_br (qf 6 (hn 6 (by omega)))).trans ((sel_br (qt 7 he)).trans rfl)))))))))))))) (by omega) h1, tail out h2⟩
      · obtain ⟨out, h1, h2⟩ := ml_tail8 hS (@envOf (S.at env) mσ) k v L hW' h16 hL hv
        exact ⟨out, then_on (k := 8) (selR_at (T := ml_t1) (σ := mσ) ((sel_must c1).trans ((sel_br c2).trans ((sel_br c3).trans ((sel_br c4).trans ((sel_must c5).trans ((sel_br (qf 0 (hn 0 (by omega)))).trans ((sel_br (qf 1 (hn 1 (by omega)))).trans ((sel_br (qf 2 (hn 2 (by omega)))).trans ((sel_br (qf 3 (hn 3 (by omega)))).trans ((sel_br (qf 4 (hn 4 (by omega)))).trans ((sel_br (qf 5 (hn 5 (by omega)))).trans ((sel_br (qf 6 (hn 6 (by omega)))).trans ((sel_br (qf 7 (hn 7 (by omega)))).trans ((sel_br (qt 8 he)).trans rfl))))))))))))))) (by omega) h1, tail out h2⟩
      · obtain ⟨out, h1, h2⟩ := ml_tail9 hS (@envOf (S.at env) mσ) k v L hW' h16 hL hv
        exact ⟨out, then_on (k := 9) (selR_at (T := ml_t1) (σ := mσ) ((sel_must c1).trans ((sel_br c2).trans ((sel_br c3).trans ((sel_br c4).trans ((sel_must c5).trans ((sel_br (qf 0 (hn 0 (by omega)))).trans ((sel_br (qf 1 (hn 1 (by omega)))).trans ((sel_br (qf 2 (hn 2 (by omega)))).trans ((sel_br (qf 3 (hn 3 (by omega)))).trans ((sel_br (qf 4 (hn 4 (by omega)))).trans ((sel_br (qf 5 (hn 5 (by omega)))).trans ((sel_br (qf 6 (hn 6 (by omega)))).trans ((sel_br (qf 7 (hn 7 (by omega)))).trans ((sel_br (qf 8 (hn 8 (by omega)))).trans ((sel_br (qt 9 he)).trans rfl)))))))))))))))) (by omega) h1, tail out h2⟩
      · obtain ⟨out, h1, h2⟩ := ml_tail10 hS (@envOf (S.at env) mσ) k v L hW' h16 hL hv
        exact ⟨out, then_on (k := 10) (selR_at (T := ml_t1) (σ := mσ) ((sel_must c1).trans ((sel_br c2).trans ((sel_br c3).trans ((sel_br c4).trans ((sel_must c5).trans ((sel_br (qf 0 (hn 0 (by omega)))).trans ((sel_br (qf 1 (hn 1 (by omega)))).trans ((sel_br (qf 2 (hn 2 (by omega)))).trans ((sel_br (qf 3 (hn 3 (by omega)))).trans ((sel_br (qf 4 (hn 4 (by omega)))).trans ((sel_br (qf 5 (hn 5 (by omega)))).trans ((sel_br (qf 6 (hn 6 (by omega)))).trans ((sel_br (qf 7 (hn 7 (by omega)))).trans ((sel_br (qf 8 (hn 8 (by omega)))).trans ((sel_br (qf 9 (hn 9 (by omega)))).trans ((sel_br (qt 10 he)).trans rfl))))))))))))))))) (by omega) h1, tail out h2⟩
      · obtain ⟨out, h1, h2⟩ := ml_tail11 hS (@envOf (S.at env) mσ) k v L hW' h16 hL hv
        exact ⟨out, then_on (k := 11) (selR_at (T := ml_t1) (σ := mσ) ((sel_must c1).trans ((sel_br c2).trans ((sel_br c3).trans ((sel_br c4).trans ((sel_must c5).trans ((sel_br (qf 0 (hn 0 (by omega)))).trans ((sel_br (qf 1 (hn 1 (by omega)))).trans ((sel_br (qf 2 (hn 2 (by omega)))).trans ((sel_br (qf 3 (hn 3 (by omega)))).trans ((sel_br (qf 4 (hn 4 (by omega)))).trans ((sel_br (qf 5 (hn 5 (by omega)))).trans ((sel_br (qf 6 (hn 6 (by omega)))).trans ((sel_br (qf 7 (hn 7 (by omega)))).trans ((sel_br (qf 8 (hn 8 (by omega)))).trans ((sel_br (qf 9 (hn 9 (by omega)))).trans ((sel_br (qf 10 (hn 10 (by omega)))).trans ((sel_br (qt 11 he)).trans rfl)))))))))))))))))) (by omega) h1, tail out h2⟩
      · obtain ⟨out, h1, h2⟩ := ml_tail12 hS (@envOf (S.at env) mσ) k v L hW' h16 hL hv
        exact ⟨out, then_on (k := 12) (selR_at (T := ml_t1) (σ := mσ) ((sel_must c1).trans ((sel_br c2).trans ((sel_br c3).trans ((sel_br c4).trans ((sel_must c5).trans ((sel_br (qf 0 (hn 0 (by omega)))).trans ((sel_br (qf 1 (hn 1 (by omega)))).trans ((sel_br (qf 2 (hn 2 (by omega)))).trans ((sel_br (qf 3 (hn 3 (by omega)))).trans ((sel_br (qf 4 (hn 4 (by omega)))).trans ((sel_br (qf 5 (hn 5 (by omega)))).trans ((sel_br (qf 6 (hn 6 (by omega)))).trans ((sel_br (qf 7 (hn 7 (by omega)))).trans ((sel_br (qf 8 (hn 8 (by omega)))).trans ((sel_br (qf 9 (hn 9 (by omega)))).trans ((sel_br (qf 10 (hn 10 (by omega)))).trans ((sel_br (qf 11 (hn 11 (by omega)))).trans ((sel_br (qt 12 he)).trans rfl))))))))))))))))))) (by omega) h1, tail out h2⟩
      · obtain ⟨out, h1, h2⟩ := ml_tail13 hS (@envOf (S.at env) mσ) k v L hW' h16 hL hv
        exact ⟨out, then_on (k := 13) (selR_at (T := ml_t1) (σ := mσ) ((sel_must c1).trans ((sel_br c2).trans ((sel_br c3).trans ((sel_br c4).trans ((sel_must c5).trans ((sel_br (qf 0 (hn 0 (by omega)))).trans ((sel_br (qf 1 (hn 1 (by omega)))).trans ((sel_br (qf 2 (hn 2 (by omega)))).trans ((sel_br (qf 3 (hn 3 (by omega)))).trans ((sel_br (qf 4 (hn 4 (by omega)))).trans ((sel_br (qf 5 (hn 5 (by omega)))).trans ((sel_br (qf 6 (hn 6 (by omega)))).trans ((sel_br (qf 7 (hn 7 (by omega)))).trans ((sel_br (qf 8 (hn 8 (by omega)))).trans ((sel_br (qf 9 (hn 9 (by omega)))).trans ((sel_br (qf 10 (hn 10 (by omega)))).trans ((sel_br (qf 11 (hn 11 (by omega)))).trans ((sel_br (qf 12 (hn 12 (by omega)))).trans ((sel_br (qt 13 he)).trans rfl)))))))))))))))))))) (by omega) h1, tail out h2⟩
      · obtain ⟨out, h1, h2⟩ := ml_tail14 hS (@envOf (S.at env) mσ) k v L hW' h16 hL hv
        exact ⟨out, then_on (k := 14) (selR_at (T := ml_t1) (σ := mσ) ((sel_must c1).trans ((sel_br c2).trans ((sel_br c3).trans ((sel_br c4).trans ((sel_must c5).trans ((sel_br (qf 0 (hn 0 (by omega)))).trans ((sel_br (qf 1 (hn 1 (by omega)))).trans ((sel_br (qf 2 (hn 2 (by omega)))).trans ((sel_br (qf 3 (hn 3 (by omega)))).trans ((sel_br (qf 4 (hn 4 (by omega)))).trans ((sel_br (qf 5 (hn 5 (by omega)))).trans ((sel_br (qf 6 (hn 6 (by omega)))).trans ((sel_br (qf 7 (hn 7 (by omega)))).trans ((sel_br (qf 8 (hn 8 (by omega)))).trans ((sel_br (qf 9 (hn 9 (by omega)))).trans ((sel_br (qf 10 (hn 10 (by omega)))).trans ((sel_br (qf 11 (hn 11 (by omega)))).trans ((sel_br (qf 12 (hn 12 (by omega)))).trans ((sel_br (qf 13 (hn 13 (by omega)))).trans ((sel_br (qt 14 he)).trans rfl))))))))))))))))))))) (by omega) h1, tail out h2⟩
end
end Go.Proofs.YtdflkikhmngfiaaGreatDoor

