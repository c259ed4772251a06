/- CpE · CpF · CpG: joined by a program, for a claim has at most 60 files. -/
import Derived.Test.YtdflkikhmngfiaaGreatDoorZ45
import Derived.Test.YtdflkikhmngfiaaGreatDoorZ30
import Derived.OpenShut
/- The document's Parse, by contract: it answers as the program's. -/
namespace Go.Proofs.YtdflkikhmngfiaaGreatDoor
open Go.RowKit
set_option linter.unusedVariables false
set_option linter.unusedSimpArgs false
set_option linter.unusedSectionVars false
set_option maxRecDepth 100000

theorem setr_at (c : Nat → PV) (x : PV) : ∀ j, j < 15 → @evP bareSy setT [rowC c, .str (bytesOf (keyAt j)), x] = .tup [rowC (fun i => if i = j then x else c i), .bool true] := all15 (by kernel_rfl) (by kernel_rfl) (by kernel_rfl) (by kernel_rfl) (by kernel_rfl) (by kernel_rfl) (by kernel_rfl) (by kernel_rfl) (by kernel_rfl) (by kernel_rfl) (by kernel_rfl) (by kernel_rfl) (by kernel_rfl) (by kernel_rfl) (by kernel_rfl)
theorem place_at : ∀ j, j < 15 → @evP bareSy placeT [.str (bytesOf (keyAt j))] = .int (j : Int) := all15 (by kernel_rfl) (by kernel_rfl) (by kernel_rfl) (by kernel_rfl) (by kernel_rfl) (by kernel_rfl) (by kernel_rfl) (by kernel_rfl) (by kernel_rfl) (by kernel_rfl) (by kernel_rfl) (by kernel_rfl) (by kernel_rfl) (by kernel_rfl) (by kernel_rfl)
theorem place_apps : placeT.apps [] = true := by kernel_rfl
/-- All leaves are numbers. -/
def Tre.ints : Tre → Bool
  | .leaf (.int _) => true
  | .leaf _ => false
  | .br _ t f => t.ints && f.ints
  | .must _ t => t.ints
theorem ckE_tot : ckT.totE = true := by kernel_rfl
theorem ck_ints : ckT.ints = true := by kernel_rfl
section
variable [S : Sy]
theorem ev_eqs {a b : Xp} {t f : Tre} (h : a.den.s ≠ b.den.s) : (Tre.br (.eqs a b) t f).ev = f.ev := by
  conv => lhs; unfold Tre.ev
  show (match PV.bool (decide (a.den.s = b.den.s)) with | .bool true => t.ev | .bool false => f.ev | _ => none) = _
  rw [decide_eq_false h]
theorem place_none {k : ByteArray} (h : ∀ j, j < 15 → bytesOf (keyAt j) ≠ k) : evP placeT [.str k] = .int (-1) := by
  unfold evP placeT
  have E : ∀ (j : Nat) (hj : j < 15) (l : List Nat) (hl : keyAt j = l) (t f : Tre), @Tre.ev (S.at (envL [.str k])) (.br (.eqs (.str l) (.var 0)) t f) = @Tre.ev (S.at (envL [.str k])) f := fun j hj l hl t f => @ev_eqs (S.at (envL [.str k])) _ _ t f (by rw [← hl]; exact h j hj)
  rw [E 0 (by omega) [99, 111, 110, 110, 115] rfl, E 1 (by omega) [115, 116, 114, 101, 97, 109, 115] rfl, E 2 (by omega) [108, 101, 97, 115, 116] rfl, E 3 (by omega) [108, 111, 119] rfl, E 4 (by omega) [104, 105, 103, 104] rfl, E 5 (by omega) [113, 117, 105, 101, 116] rfl, E 6 (by omega) [98, 117, 114, 115, 116] rfl, E 7 (by omega) [114, 97, 116, 101] rfl, E 8 (by omega) [112, 101, 114] rfl, E 9 (by omega) [99, 97, 112] rfl, E 10 (by omega) [113, 117, 97, 110, 116, 117, 109] rfl, E 11 (by omega) [108, 105, 109, 105, 116] rfl, E 12 (by omega) [119, 111, 114, 107, 101, 114, 115] rfl, E 13 (by omega) [115, 101, 99, 111, 110, 100] rfl, E 14 (by omega) [119, 97, 105, 116] rfl]
  rfl
theorem ints_ev : ∀ {T : Tre} {p : PV}, T.ints = true → T.ev = some p → p = .int p.i
  | .leaf (.int n), p, _, h => by injection h with h; rw [← h]; rfl
  | .br c t f, p, h, hp => by
    obtain ⟨h1, h2⟩ := and2 (show (t.ints && f.ints) = true from h)
    unfold Tre.ev at hp
    split at hp
    · exact ints_ev h1 hp
    · exact ints_ev h2 hp
    · cases hp
  | .must c t, p, h, hp => by
    unfold Tre.ev at hp
    split at hp
    · exact ints_ev (T := t) h hp
    · cases hp
theorem ck_int (hS : ChkS S) (c : PV) : S.fn 12 [c] = .int (S.fn 12 [c]).i := by
  rw [hS.check]
  exact @ints_ev (S.at (envL [c])) _ _ ck_ints (evE_some ckE_tot [c])
/-- Where the fields stand at the loop's head. -/
def vy (j : Nat) : Nat := [3, 4, 11, 5, 12, 8, 15, 6, 13, 9, 16, 7, 14, 10, 17].getD j 0
theorem row_dx3 {e : Env} {c : Nat → PV} (q : ∀ j, j < 15 → e (vy j) = c j) : @Xp.den (S.at e) dx3 = rowC c := by
  show PV.tup [e (vy 0), e (vy 1), e (vy 2), e (vy 3), e (vy 4), e (vy 5), e (vy 6), e (vy 7), e (vy 8), e (vy 9), e (vy 10), e (vy 11), e (vy 12), e (vy 13), e (vy 14)] = _
  rw [q 0 (by omega), q 1 (by omega), q 2 (by omega), q 3 (by omega), q 4 (by omega), q 5 (by omega), q 6 (by omega), q 7 (by omega), q 8 (by omega), q 9 (by omega), q 10 (by omega), q 11 (by omega), q 12 (by omega), q 13 (by omega), q 14 (by omega)]
  rfl
theorem rowC_cl (c : Nat → PV) : ∀ j, j < 15 → (rowC c).cl j = c j := all15 rfl rfl rfl rfl rfl rfl rfl rfl rfl rfl rfl rfl rfl rfl rfl
theorem zero_dx1 {e : Env} : @Xp.den (S.at e) dx1 = zeroC := rfl
theorem inP_is (k : ByteArray) (L : List ByteArray) : inP (.lst (L.map PV.str)) (.str k) = inL k L := by
  show (L.map PV.str).any (fun x => decide (x.s = k)) = L.any fun x => decide (x = k)
  rw [List.any_map]
  rfl
theorem words_size (s : ByteArray) : ∀ x ∈ wordsB s, x.size ≤ s.size := fun x hx => by
  have h1 := (List.mem_filter.1 hx).1
  have h2 := partsS_le (strL (cutL 35 (LL s)).1) 32 x h1
  have h3 := cutS_le 35 s
  omega
theorem lineF_L (c : Nat → PV) (L : List ByteArray) (s : ByteArray) : (lineF c L s).2.2.length ≤ L.length + 1 := lineF_len c L s
/-- A round of Parse, at a line. -/
theorem dp_step (hS : ChkS S) (e : Env) (T : List ByteArray) (i : Nat) (c : Nat → PV) (L : List ByteArray) (hT : S.fn 40 [e 0] = .lst (T.map PV.str)) (h1 : e 1 = .int i) (h2 : e 2 = .lst (L.map PV.str)) (q : ∀ j, j < 15 → e (vy j) = c j) (hi : i < T.length) (hsz : T[i].size ≤ 60000) (hL : L.length ≤ 60000) (hb : i ≤ 60000) :
    ((lineF c L T[i]).1 = 0 ∧ ∃ e' : Env, selR dp_t5 e (.inl (0, e')) ∧ e' 0 = e 0 ∧ e' 1 = .int ((i + 1 : Nat) : Int) ∧ e' 2 = .lst ((lineF c L T[i]).2.2.map PV.str) ∧ ∀ j, j < 15 → e' (vy j) = (lineF c L T[i]).2.1 j) ∨
    ((lineF c L T[i]).1 ≠ 0 ∧ selR dp_t5 e (.inr (.tup [zeroC, .int ((i + 1 : Nat) : Int), .int (lineF c L T[i]).1]))) := by
  have a6 : (@Xp.den (S.at e) dx6).l = T.map PV.str := congrArg PV.l hT
  have a1 : @Xp.den (S.at e) (.var 1) = .int (i : Int) := h1
  have hi' : i < (T.map PV.str).length := by rw [List.length_map]; exact hi
  have c1 := ls_lt a6 a1
  rw [decide_eq_true hi'] at c1
  have c2 := ls_inb a6 a1 hi'
  have hg : @Xp.den (S.at e) (.get dx6 (.var 1) 1 0) = .str T[i] := by rw [ls_get a6 a1 hi', List.getElem_map]
  generalize T[i] = ln at hg hsz
  have c3 : @Xp.den (S.at e) (.app 33 (.cons (.get dx6 (.var 1) 1 0) (.nil))) = .bool true := by
    show S.fn 33 [@Xp.den (S.at e) (.get dx6 (.var 1) 1 0)] = _
    rw [hg, hS.wordspre]
    exact congrArg PV.bool (decide_eq_true hsz)
  have c4 : @Xp.den (S.at e) (.cmpi .lss (.int 200) (.lens (.get dx6 (.var 1) 1 0))) = .bool (decide (200 < ln.size)) := by
    show PV.bool (decide ((200 : Int) < ((@Xp.den (S.at e) (.get dx6 (.var 1) 1 0)).s.size : Int))) = _
    rw [hg]
    refine congrArg PV.bool ?_
    show decide ((200 : Int) < (ln.size : Int)) = _
    by_cases h : 200 < ln.size
    · rw [decide_eq_true h, decide_eq_true (by omega)]
    · rw [decide_eq_false h, decide_eq_false (by omega)]
  have hinc := ch_inc a1 (by omega)
  have hfin : ∀ n : Int, @Xp.den (S.at e) (.cons dx1 (.cons dx5 (.cons (.int n) (.nil)))) = .tup [zeroC, .int ((i + 1 : Nat) : Int), .int n] := fun n => by
    show PV.tup [zeroC, @Xp.den (S.at e) (.bin .add .i64 (.var 1) (.int 1)), .int n] = _
    rw [hinc]
  have fin : ∀ n : Int, @Trl.sel (S.at e) dp_t5 = some (.fin (.cons dx1 (.cons dx5 (.cons (.int n) (.nil))))) → selR dp_t5 e (.inr (.tup [zeroC, .int ((i + 1 : Nat) : Int), .int n])) := fun n h => by
    have := selR_fin (T := dp_t5) h
    rw [hfin] at this
    exact this
  by_cases h200 : 200 < ln.size
  · rw [decide_eq_true h200] at c4
    have hF : lineF c L ln = (5, c, L) := by unfold lineF; rw [if_pos h200]
    rw [hF]
    exact .inr ⟨show (5 : Int) ≠ 0 by decide, fin 5 ((sel_br c1).trans ((sel_must c2).trans ((sel_must c3).trans ((sel_br c4).trans rfl))))⟩
  rw [decide_eq_false h200] at c4
  have hF0 : lineF c L ln = match wordsB ln with | [] => (0, c, L) | [k, v] => (match keyIx k with | none => (11, c, L) | some i => if inL k L = true then (12, c, L) else if numOk (LL v) = true then (0, (fun j => if j = i then .int (numI (LL v)) else c j), L ++ [k]) else (8, c, L)) | _ => (4, c, L) := by
    unfold lineF
    rw [if_neg h200]
    rfl
  have hW : @Xp.den (S.at e) dx2 = .lst ((wordsB ln).map PV.str) := by
    show S.fn 3 [@Xp.den (S.at e) (.get dx6 (.var 1) 1 0)] = _
    rw [hg, hS.words]
    rfl
  have hws := words_size ln
  generalize wordsB ln = W at hW hws hF0
  have hlen : ∀ n : Int, @Xp.den (S.at e) (.cmpi .eql (.lenl dx2) (.int n)) = .bool (decide ((W.length : Int) = n)) := fun n => by
    show PV.bool (decide (((@Xp.den (S.at e) dx2).l.length : Int) = n)) = _
    rw [hW]
    show PV.bool (decide (((W.map PV.str).length : Int) = n)) = _
    rw [List.length_map]
  have c5 := hlen 0
  have c6 := hlen 2
  match W, hW, hws, c5, c6, hF0 with
  | [], _, _, c5, _, hF0 =>
    rw [show lineF c L ln = (0, c, L) from hF0]
    exact .inl ⟨rfl, _, selR_at (T := dp_t5) ((sel_br c1).trans ((sel_must c2).trans ((sel_must c3).trans ((sel_br c4).trans ((sel_br c5).trans rfl))))), rfl, hinc, h2, fun j hj => (all15 (P := fun j => @envOf (S.at e) [.var 0, .bin .add .i64 (.var 1) (.int 1), .var 2, .var 3, .var 4, .var 5, .var 6, .var 7, .var 8, .var 9, .var 10, .var 11, .var 12, .var 13, .var 14, .var 15, .var 16, .var 17] (vy j) = e (vy j)) rfl rfl rfl rfl rfl rfl rfl rfl rfl rfl rfl rfl rfl rfl rfl j hj).trans (q j hj)⟩
  | [x], _, _, c5, c6, hF0 =>
    rw [show lineF c L ln = (4, c, L) from hF0]
    exact .inr ⟨show (4 : Int) ≠ 0 by decide, fin 4 ((sel_br c1).trans ((sel_must c2).trans ((sel_must c3).trans ((sel_br c4).trans ((sel_br c5).trans ((sel_br c6).trans rfl))))))⟩
  | x :: y :: z :: r, _, _, c5, c6, hF0 =>
    rw [show lineF c L ln = (4, c, L) from hF0]
    have d5 : decide (((x :: y :: z :: r).length : Int) = 0) = false := decide_eq_false (by simp only [List.length_cons]; omega)
    have d6 : decide (((x :: y :: z :: r).length : Int) = 2) = false := decide_eq_false (by simp only [List.length_cons]; omega)
    rw [d5] at c5
    rw [d6] at c6
    exact .inr ⟨show (4 : Int) ≠ 0 by decide, fin 4 ((sel_br c1).trans ((sel_must c2).trans ((sel_must c3).trans ((sel_br c4).trans ((sel_br c5).trans ((sel_br c6).trans rfl))))))⟩
  | [k, v], hW, hws, c5, c6, hF0 =>
    have hF0 : lineF c L ln = match keyIx k with | none => (11, c, L) | some i => if inL k L = true then (12, c, L) else if numOk (LL v) = true then (0, (fun j => if j = i then .int (numI (LL v)) else c j), L ++ [k]) else (8, c, L) := hF0
    have hWl : (@Xp.den (S.at e) dx2).l = [PV.str k, PV.str v] := by rw [hW]; rfl
    have c7 : @Xp.den (S.at e) (.inb (.int 0) (.lenl dx2)) = .bool true := ls_inb (i := 0) hWl rfl (by simp)
    have c8 : @Xp.den (S.at e) (.inb (.int 1) (.lenl dx2)) = .bool true := ls_inb (i := 1) hWl rfl (by simp)
    have g0 : @Xp.den (S.at e) dx8 = .str k := ls_get (ie := .int 0) (i := 0) hWl rfl (by simp)
    have g1 : @Xp.den (S.at e) (.get dx2 (.int 1) 1 0) = .str v := ls_get (ie := .int 1) (i := 1) hWl rfl (by simp)
    have hpl : @Xp.den (S.at e) (.app 42 (.cons dx8 (.nil))) = evP placeT [.str k] := by
      show S.fn 42 [@Xp.den (S.at e) dx8] = _
      rw [g0, hS.place]
    have c9 : ∀ n : Int, evP placeT [.str k] = .int n → @Xp.den (S.at e) (.cmpi .lss (.app 42 (.cons dx8 (.nil))) (.int 0)) = .bool (decide (n < 0)) := fun n h => by
      show PV.bool (decide ((@Xp.den (S.at e) (.app 42 (.cons dx8 (.nil)))).i < 0)) = _
      rw [hpl, h]
      rfl
    have go := fun {t : Option Lf} (hh : @Trl.sel (S.at e) (.br (.cmpi .lss (.app 42 (.cons dx8 (.nil))) (.int 0)) (.leaf (.fin (.cons dx1 (.cons dx5 (.cons (.int 11) (.nil)))))) (.must (.app 73 (.cons (.var 2) (.cons dx8 (.nil)))) (.br (.app 43 (.cons (.var 2) (.cons dx8 (.nil)))) (.leaf (.fin (.cons dx1 (.cons dx5 (.cons (.int 12) (.nil)))))) (.must (.inb (.int 1) (.lenl dx2)) (.must (.app 34 (.cons (.get dx2 (.int 1) 1 0) (.nil))) (.br (.cell (.app 4 (.cons (.get dx2 (.int 1) 1 0) (.nil))) 1) (.must (.rng (.int 0) (.lenl (.snoc (.var 2) dx8)) (.int 100000)) (.leaf (.at 0 [.var 0, .bin .add .i64 (.var 1) (.int 1), .snoc (.var 2) dx8, .cell dx0 0, .cell dx0 1, .cell dx0 3, .cell dx0 7, .cell dx0 11, .cell dx0 5, .cell dx0 9, .cell dx0 13, .cell dx0 2, .cell dx0 4, .cell dx0 8, .cell dx0 12, .cell dx0 6, .cell dx0 10, .cell dx0 14] [(0, 0), (1, 1), (2, 2), (3, 5)]))) (.leaf (.fin (.cons dx1 (.cons dx5 (.cons (.int 8) (.nil)))))))))))) = t) =>
      show @Trl.sel (S.at e) dp_t5 = t from (sel_br c1).trans ((sel_must c2).trans ((sel_must c3).trans ((sel_br c4).trans ((sel_br c5).trans ((sel_br c6).trans ((sel_must c7).trans hh))))))
    cases hk : keyIx k with
    | none =>
      simp only [hk] at hF0
      rw [hF0]
      have d9 := c9 (-1) (place_none (keyIx_none hk))
      exact .inr ⟨show (11 : Int) ≠ 0 by decide, fin 11 (go ((sel_br d9).trans rfl))⟩
    | some j =>
      obtain ⟨hj, he, _⟩ := keyIx_some hk
      have hp : evP placeT [.str k] = .int (j : Int) := by
        rw [noapps (S2 := bareSy) place_apps, ← he]
        exact place_at j hj
      have d9 := c9 j hp
      rw [decide_eq_false (show ¬ (j : Int) < 0 by omega)] at d9
      have c10 : @Xp.den (S.at e) (.app 73 (.cons (.var 2) (.cons dx8 (.nil)))) = .bool true := by
        show S.fn 73 [e 2, @Xp.den (S.at e) dx8] = _
        rw [hS.innpre, h2]
        refine congrArg PV.bool (decide_eq_true ?_)
        show (L.map PV.str).length ≤ _
        rw [List.length_map]
        omega
      have c11 : @Xp.den (S.at e) (.app 43 (.cons (.var 2) (.cons dx8 (.nil)))) = .bool (inL k L) := by
        show S.fn 43 [e 2, @Xp.den (S.at e) dx8] = _
        rw [hS.inn, h2, g0, inP_is]
      cases hin : inL k L with
      | true =>
        rw [hin] at c11
        simp only [hk, hin, if_true] at hF0
        rw [hF0]
        exact .inr ⟨show (12 : Int) ≠ 0 by decide, fin 12 (go ((sel_br d9).trans ((sel_must c10).trans ((sel_br c11).trans rfl))))⟩
      | false =>
        rw [hin] at c11
        have hv : v.size ≤ maxLen := by
          have := hws v (by simp)
          unfold maxLen
          omega
        have c12 : @Xp.den (S.at e) (.app 34 (.cons (.get dx2 (.int 1) 1 0) (.nil))) = .bool true := by
          show S.fn 34 [@Xp.den (S.at e) (.get dx2 (.int 1) 1 0)] = _
          rw [g1, hS.numpre]
          exact congrArg PV.bool (decide_eq_true hv)
        have hnum : S.fn 4 [@Xp.den (S.at e) (.get dx2 (.int 1) 1 0)] = .tup [.int (numI (LL v)), .bool (numOk (LL v))] := by
          rw [g1, hS.num]
          rfl
        have c13 : @Xp.den (S.at e) (.cell (.app 4 (.cons (.get dx2 (.int 1) 1 0) (.nil))) 1) = .bool (numOk (LL v)) := by
          show (S.fn 4 [@Xp.den (S.at e) (.get dx2 (.int 1) 1 0)]).cl 1 = _
          rw [hnum]
          rfl
        cases hno : numOk (LL v) with
        | false =>
          rw [hno] at c13
          simp only [hk, hin, hno, Bool.false_eq_true, if_false] at hF0
          rw [hF0]
          exact .inr ⟨show (8 : Int) ≠ 0 by decide, fin 8 (go ((sel_br d9).trans ((sel_must c10).trans ((sel_br c11).trans ((sel_must c8).trans ((sel_must c12).trans ((sel_br c13).trans rfl)))))))⟩
        | true =>
          rw [hno] at c13
          simp only [hk, hin, hno, Bool.false_eq_true, if_false, if_true] at hF0
          rw [hF0]
          have hsn := ch_snoc (show @Xp.den (S.at e) (.var 2) = _ from h2) g0
          have hsn2 : L.map PV.str ++ [PV.str k] = (L ++ [k]).map PV.str := by rw [List.map_append]; rfl
          rw [hsn2] at hsn
          have c14 := ch_room hsn (by rw [List.length_map, List.length_append]; simp; omega)
          have h0 : @Xp.den (S.at e) dx0 = rowC (fun i => if i = j then .int (numI (LL v)) else c i) := by
            show (S.fn 17 [@Xp.den (S.at e) dx3, @Xp.den (S.at e) dx8, (S.fn 4 [@Xp.den (S.at e) (.get dx2 (.int 1) 1 0)]).cl 0]).cl 0 = _
            rw [row_dx3 q, g0, hnum, hS.set, noapps (S2 := bareSy) set_apps, ← he]
            rw [setr_at c _ j hj]
            rfl
          have hc : ∀ i, i < 15 → @Xp.den (S.at e) (.cell dx0 i) = if i = j then .int (numI (LL v)) else c i := fun i hi => by
            show (@Xp.den (S.at e) dx0).cl i = _
            rw [h0, rowC_cl _ i hi]
          exact .inl ⟨rfl, _, selR_at (T := dp_t5) (go ((sel_br d9).trans ((sel_must c10).trans ((sel_br c11).trans ((sel_must c8).trans ((sel_must c12).trans ((sel_br c13).trans ((sel_must c14).trans rfl)))))))), rfl, hinc, hsn, fun i hi => (all15 (P := fun i => @envOf (S.at e) [.var 0, .bin .add .i64 (.var 1) (.int 1), .snoc (.var 2) dx8, .cell dx0 0, .cell dx0 1, .cell dx0 3, .cell dx0 7, .cell dx0 11, .cell dx0 5, .cell dx0 9, .cell dx0 13, .cell dx0 2, .cell dx0 4, .cell dx0 8, .cell dx0 12, .cell dx0 6, .cell dx0 10, .cell dx0 14] (vy i) = @Xp.den (S.at e) (.cell dx0 i)) rfl rfl rfl rfl rfl rfl rfl rfl rfl rfl rfl rfl rfl rfl rfl i hi).trans (hc i hi)⟩
end
end Go.Proofs.YtdflkikhmngfiaaGreatDoor


/- The document's Parse, all of it, by contract. -/
namespace Go.Proofs.YtdflkikhmngfiaaGreatDoor
open Go.RowKit
set_option linter.unusedVariables false
set_option linter.unusedSimpArgs false
set_option linter.unusedSectionVars false
set_option maxRecDepth 100000

noncomputable def fsRParse : Fs := ⟨6, [.sh .str], [.agg i15, .sh (.int .i64), .sh (.int .i64)], 8, some 38⟩
section
variable [S : Sy]
/-- Where the loop stands, at line i. -/
def DpI (env0 : Env) (i : Nat) (e : Env) : Prop := e 0 = env0 0 ∧ e 1 = .int i ∧ ∃ (c : Nat → PV) (L : List ByteArray), e 2 = .lst (L.map PV.str) ∧ (∀ j, j < 15 → e (vy j) = c j) ∧ goF ((linesF (env0 0).s).take i) usC [] = .inr (c, L) ∧ L.length ≤ i
theorem dp_all (hS : ChkS S) (env : Env) (hz : (env 0).s.size ≤ 60000) : dp_R env (.inr (parseF (env 0).s)) := by
  have hlen : (linesF (env 0).s).length ≤ 60000 := Nat.le_trans (linesN_len _ _ _) hz
  have hT : S.fn 40 [env 0] = .lst (((linesF (env 0).s).map (·.2)).map PV.str) := by rw [hS.lines, lnA_linesF]
  have hnum : ∀ i x, (linesF (env 0).s)[i]? = some x → x.1 = 1 + i := fun i x h => linesN_num _ _ _ _ _ h
  have hsize : ∀ x ∈ linesF (env 0).s, x.2.size ≤ 60000 := fun x hx => by
    have := linesN_size _ _ _ x hx
    rw [LL_len] at this
    omega
  have hP : parseF (env 0).s = match goF (linesF (env 0).s) usC [] with
    | .inl (n, e) => .tup [zeroC, .int n, .int e]
    | .inr (c, _) => if (S.fn 12 [rowC c]).i = 0 then .tup [rowC c, .int 0, .int 0] else .tup [zeroC, .int 0, .int (S.fn 12 [rowC c]).i] := rfl
  have hI := DpI env
  generalize hLs : linesF (env 0).s = Ls at hlen hT hnum hsize hP
  obtain ⟨out, h1, hq⟩ := loop_run (nE := 1) (R := fun _ => dp_B1) (DpI env) (fun out => (∃ n e, goF Ls usC [] = .inl (n, e) ∧ out = .inr (.tup [zeroC, .int n, .int e])) ∨ ∃ (e : Env) (c : Nat → PV) (L : List ByteArray), out = .inl (0, e) ∧ goF Ls usC [] = .inr (c, L) ∧ ∀ j, j < 15 → e (vy j) = c j) Ls.length
    (fun i e hi ⟨k0, k1, c, L, k2, kq, kg, kL⟩ => by
      rw [hLs] at kg
      have hTe : S.fn 40 [e 0] = .lst ((Ls.map (·.2)).map PV.str) := by rw [k0]; exact hT
      by_cases h : i < Ls.length
      · have hi2 : i < (Ls.map (·.2)).length := by rw [List.length_map]; exact h
        have hget : (Ls.map (·.2))[i] = Ls[i].2 := List.getElem_map ..
        have hn := hnum i Ls[i] (List.getElem?_eq_getElem h)
        have hs := hsize Ls[i] (List.getElem_mem h)
        have ht : Ls.take (i + 1) = Ls.take i ++ [Ls[i]] := List.take_succ_eq_append_getElem h
        have hstep := dp_step hS e (Ls.map (·.2)) i c L hTe k1 k2 kq hi2 (by rw [hget]; exact hs) (by omega) (by omega)
        rw [hget] at hstep
        have hsn := goF_snoc (Ls.take i) Ls[i] usC [] c L kg
        rw [← ht] at hsn
        rcases hstep with ⟨j0, e', j1, j2, j3, j4, j5⟩ | ⟨j0, j1⟩
        · refine .inl ⟨e', j1, h, j2.trans k0, j3, (lineF c L Ls[i].2).2.1, (lineF c L Ls[i].2).2.2, j4, j5, ?_, ?_⟩
          · rw [hLs, hsn, if_pos j0]
          · have := lineF_L c L Ls[i].2
            omega
        · refine .inr (.inr ⟨_, j1, .inl ⟨i + 1, (lineF c L Ls[i].2).1, ?_, rfl⟩⟩)
          rw [if_neg j0] at hsn
          have hst := goF_stop (Ls.take (i + 1)) (Ls.drop (i + 1)) usC [] _ _ hsn
          rw [List.take_append_drop, hn, Nat.add_comm] at hst
          exact hst
      · have a6 : (@Xp.den (S.at e) dx6).l = (Ls.map (·.2)).map PV.str := congrArg PV.l hTe
        have c1 := ls_lt a6 (show @Xp.den (S.at e) (.var 1) = .int (i : Int) from k1)
        rw [decide_eq_false (by rw [List.length_map, List.length_map]; exact h)] at c1
        rw [List.take_of_length_le (by omega)] at kg
        exact .inr (.inl ⟨0, _, by omega, selR_at (T := dp_t5) ((sel_br c1).trans rfl), .inr ⟨_, c, L, rfl, kg, fun j hj => (all15 (P := fun j => @envOf (S.at e) [.var 0, .var 1, .var 2, .var 3, .var 4, .var 5, .var 6, .var 7, .var 8, .var 9, .var 10, .var 11, .var 12, .var 13, .var 14, .var 15, .var 16, .var 17] (vy j) = e (vy j)) rfl rfl rfl rfl rfl rfl rfl rfl rfl rfl rfl rfl rfl rfl rfl j hj).trans (kq j hj)⟩⟩))
    Ls.length 0 (@envOf (S.at (@envOf (S.at env) [.var 0])) [.var 0, .int 0, .lnil, .cell dx4 0, .cell dx4 1, .cell dx4 3, .cell dx4 7, .cell dx4 11, .cell dx4 5, .cell dx4 9, .cell dx4 13, .cell dx4 2, .cell dx4 4, .cell dx4 8, .cell dx4 12, .cell dx4 6, .cell dx4 10, .cell dx4 14]) (by omega) ⟨rfl, rfl, usC, [], rfl, fun j hj => (all15 (P := fun j => @envOf (S.at (@envOf (S.at env) [.var 0])) [.var 0, .int 0, .lnil, .cell dx4 0, .cell dx4 1, .cell dx4 3, .cell dx4 7, .cell dx4 11, .cell dx4 5, .cell dx4 9, .cell dx4 13, .cell dx4 2, .cell dx4 4, .cell dx4 8, .cell dx4 12, .cell dx4 6, .cell dx4 10, .cell dx4 14] (vy j) = (S.fn 15 []).cl j) rfl rfl rfl rfl rfl rfl rfl rfl rfl rfl rfl rfl rfl rfl rfl j hj).trans (by rw [hS.usual]; rfl), rfl, Nat.zero_le _⟩
  have c1 : @Xp.den (S.at env) (.app 71 (.cons (.var 0) (.nil))) = .bool true := by
    show S.fn 71 [env 0] = _
    rw [hS.linespre]
    exact congrArg PV.bool (decide_eq_true hz)
  rcases hq with ⟨n, er, hg, rfl⟩ | ⟨e, c, L, rfl, hg, kq⟩
  · rw [hP, hg]
    exact then_on (selR_at (T := dp_t1) ((sel_must c1).trans rfl)) (by omega) (then_fin (then_on (selR_at (T := dp_t3) rfl) (by omega) h1))
  · rw [hP, hg]
    refine then_on (selR_at (T := dp_t1) ((sel_must c1).trans rfl)) (by omega) (then_on (k := 0) (e := e) (then_on (selR_at (T := dp_t3) rfl) (by omega) h1) (by omega) ?_)
    have hr := row_dx3 (S := S) kq
    have h12 : @Xp.den (S.at e) (.app 12 (.cons dx3 (.nil))) = S.fn 12 [rowC c] := by
      show S.fn 12 [@Xp.den (S.at e) dx3] = _
      rw [hr]
    have c2 : @Xp.den (S.at e) (.cmpi .eql (.app 12 (.cons dx3 (.nil))) (.int 0)) = .bool (decide ((S.fn 12 [rowC c]).i = 0)) := by
      show PV.bool (decide ((@Xp.den (S.at e) (.app 12 (.cons dx3 (.nil)))).i = 0)) = _
      rw [h12]
    by_cases h : (S.fn 12 [rowC c]).i = 0
    · rw [decide_eq_true h] at c2
      have := selR_fin (T := dp_t7) (e := .cons dx3 (.cons (.int 0) (.cons (.int 0) (.nil)))) ((sel_br c2).trans rfl)
      rw [show @Xp.den (S.at e) (.cons dx3 (.cons (.int 0) (.cons (.int 0) (.nil)))) = .tup [rowC c, .int 0, .int 0] from by show PV.tup [@Xp.den (S.at e) dx3, .int 0, .int 0] = _; rw [hr]] at this
      simp only [if_pos h]
      exact this
    · rw [decide_eq_false h] at c2
      have := selR_fin (T := dp_t7) (e := .cons dx1 (.cons (.int 0) (.cons (.app 12 (.cons dx3 (.nil))) (.nil)))) ((sel_br c2).trans rfl)
      rw [show @Xp.den (S.at e) (.cons dx1 (.cons (.int 0) (.cons (.app 12 (.cons dx3 (.nil))) (.nil)))) = .tup [zeroC, .int 0, .int (S.fn 12 [rowC c]).i] from by show PV.tup [zeroC, .int 0, @Xp.den (S.at e) (.app 12 (.cons dx3 (.nil)))] = _; rw [h12, ck_int hS]; rfl] at this
      simp only [if_neg h]
      exact this
theorem rlines_ok (hS : DocS S) : FnOK Tryz.prog fsRLines := by
  refine fn_ok (c := dl_C) Tryz.func17 dl_body (fun w vs => MuLone.run_callFunc_enter Tryz.func17 (prog_N _ _ _ Tryz.func17 dl_body) dl_body vs w) (by kernel_rfl) (R := fun F => @dl_R (S.lo F)) (fun F => @dl_spec (S.lo F) (fun _ h => (List.not_mem_nil h).elim)) fun F ps hl hp => ?_
  match ps, hl with
  | [a], _ =>
    have h := hp 71 rfl
    rw [hS.linespre] at h
    injection h with h
    rw [hS.lines]
    exact @dl_all (S.lo F) (envL [a]) (of_decide_eq_true h)
theorem rwords_ok (hS : DocS S) : FnOK Tryz.prog fsRWords := by
  refine fn_ok (c := dw_C) Tryz.func18 dw_body (fun w vs => MuLone.run_callFunc_enter Tryz.func18 (prog_N _ _ _ Tryz.func18 dw_body) dw_body vs w) (by kernel_rfl) (R := fun F => @dw_R (S.lo F)) (fun F => @dw_spec (S.lo F) (fun _ h => (List.not_mem_nil h).elim)) fun F ps hl hp => ?_
  match ps, hl with
  | [a], _ =>
    have h := hp 33 rfl
    rw [hS.wordspre] at h
    injection h with h
    rw [hS.words, ← wsA_words]
    exact @dw_all (S.lo F) (envL [a]) (of_decide_eq_true h)
theorem rin_ok (hS : DocS S) : FnOK Tryz.prog fsRIn := by
  refine fn_ok (c := dn_C) Tryz.func20 dn_body (fun w vs => MuLone.run_callFunc_enter Tryz.func20 (prog_N _ _ _ Tryz.func20 dn_body) dn_body vs w) (by kernel_rfl) (R := fun F => @dn_R (S.lo F)) (fun F => @dn_spec (S.lo F) (fun _ h => (List.not_mem_nil h).elim)) fun F ps hl hp => ?_
  match ps, hl with
  | [a, b], _ =>
    have h := hp 73 rfl
    rw [hS.innpre] at h
    injection h with h
    rw [hS.inn]
    exact @dn_all (S.lo F) (envL [a, b]) (of_decide_eq_true h)
theorem rplace_ok (hS : DocS S) : FnOK Tryz.prog fsRPlace :=
  tree_ok (l := []) (T := placeT) (fun w vs => MuLone.run_callFunc_enter Tryz.func19 (prog_N _ _ _ Tryz.func19 rfl) rfl vs w) prog_N prog_mixed (fun _ h => (List.not_mem_nil h).elim) (fun _ h => (List.not_mem_nil h).elim) place_chk fun ps _ _ => by rw [hS.place]; exact evE_some (by kernel_rfl) ps
theorem rusual_ok (hS : DocS S) : FnOK Tryz.prog fsRUsual :=
  tree_ok (l := []) (T := usT) (fun w vs => MuLone.run_callFunc_enter Tryz.func16 (prog_N _ _ _ Tryz.func16 rfl) rfl vs w) prog_N prog_mixed (fun _ h => (List.not_mem_nil h).elim) (fun _ h => (List.not_mem_nil h).elim) rus_chk fun ps hl _ => by
    obtain rfl := List.length_eq_zero_iff.1 hl
    rw [hS.usual]
    rfl
theorem rnumber_ok (hS : DocS S) : FnOK Tryz.prog fsRNumber := by
  refine ⟨fun w vs => MuLone.run_callFunc_enter Tryz.func21 (prog_N _ _ _ Tryz.func21 rfl) rfl vs w, fun F W ps vs hF hi ha hp => ?_⟩
  obtain ⟨a, x, rfl, rfl, h1⟩ := args1 ha
  obtain rfl := str_rp h1
  have h := hp 34 rfl
  rw [hS.numpre] at h
  injection h with h
  refine (refNumber a.s W (of_decide_eq_true h)).mono ?_
  rintro e w' ⟨rfl, hb⟩
  refine ⟨_, rfl, ?_, hb ▸ Below.refl _ W⟩
  show resOK _ [.sh (.int .i64), .sh .bool] (S.fn 4 [a]) _
  rw [hS.num]
  exact ⟨_, rfl, _, _, rfl, by simp only [Tm.rp, Sh.rp]; rfl, _, _, rfl, by simp only [Tm.rp, Sh.rp]; rfl, rfl⟩
theorem evP_lo (F : Fz) (T : Tre) (ps : List PV) : @evP S T ps = @evP (S.lo F) T ps := by
  unfold evP
  rw [ev_lo]
theorem ChkS.lo {S : Sy} (h : ChkS S) (F : Fz) : ChkS (S.lo F) := { h with
  check := fun ps => (h.check ps).trans (evP_lo F ckT ps)
  hyst := fun ps => (h.hyst ps).trans (evP_lo F hyT ps)
  get := fun ps => (h.get ps).trans (evP_lo F getT ps)
  set := fun ps => (h.set ps).trans (evP_lo F setT ps)
  keys := fun ps => (h.keys ps).trans (evP_lo F keysT ps)
  place := fun ps => (h.place ps).trans (evP_lo F placeT ps)
  b21 := fun ps => (h.b21 ps).trans (evP_lo F b21T ps)
  f27 := fun ps => (h.f27 ps).trans (evP_lo F f27T ps) }
theorem rparse_ok (hS : ChkS S) : FnOK Tryz.prog fsRParse := by
  have hO : ∀ s ∈ dpL, FnOK Tryz.prog s := fun s hs => by
    simp only [dpL, List.mem_cons, List.not_mem_nil, or_false] at hs
    rcases hs with rfl | rfl | rfl | rfl | rfl | rfl | rfl | rfl
    · exact rusual_ok hS.toDocS
    · exact rlines_ok hS.toDocS
    · exact rwords_ok hS.toDocS
    · exact rplace_ok hS.toDocS
    · exact rin_ok hS.toDocS
    · exact rnumber_ok hS.toDocS
    · exact rset_ok hS.toLawS
    · exact rcheck_ok hS
  refine fn_ok (c := dp_C) Tryz.func6 dp_body (fun w vs => MuLone.run_callFunc_enter Tryz.func6 (prog_N _ _ _ Tryz.func6 dp_body) dp_body vs w) (by kernel_rfl) (R := fun F => @dp_R (S.lo F)) (fun F => @dp_spec (S.lo F) hO) fun F ps hl hp => ?_
  match ps, hl with
  | [a], _ =>
    have h := hp 38 rfl
    rw [hS.parsepre] at h
    injection h with h
    rw [hS.parse]
    exact @dp_all (S.lo F) (hS.lo F) (envL [a]) (of_decide_eq_true h)
end
end Go.Proofs.YtdflkikhmngfiaaGreatDoor


/- ConfigParses: the table, the law as a tree, its walk. -/
namespace Go.Proofs.YtdflkikhmngfiaaGreatDoor
open Go.RowKit
set_option linter.unusedVariables false
set_option linter.unusedSimpArgs false
set_option linter.unusedSectionVars false
set_option maxRecDepth 100000

def cpFn (n : Nat) (ps : List PV) : PV := match n with
  | 40 => .lst (((lnA [] (LL (argP ps 0).s)).map strL).map PV.str)
  | 42 => @evP bareSy placeT ps
  | 43 => .bool (inP (argP ps 0) (argP ps 1))
  | 46 => @evP bareSy b21T ps
  | 47 => @evP bareSy f27T ps
  | 71 => .bool (decide ((argP ps 0).s.size ≤ 60000))
  | 73 => .bool (decide ((argP ps 0).l.length ≤ 100000))
  | n => cfFn n ps
@[reducible] def cpSy : Sy := ⟨fun _ => default, cpFn, fun _ _ => none, CfInv, fun _ => none, CfInv.up, CfInv.keep⟩
theorem b21_apps : b21T.apps [] = true := by kernel_rfl
theorem f27_apps : f27T.apps [] = true := by kernel_rfl
theorem lawP : ChkS cpSy := {
  cut := fun _ _ => rfl, cutpre := fun _ _ => rfl, split := fun _ _ => rfl, splitpre := fun _ _ => rfl, words := fun _ => rfl, wordspre := fun _ => rfl,
  inv := fun _ _ h => h, num := fun _ => rfl, numpre := fun _ => rfl,
  hyst := fun ps => noapps hy_apps ps, pool := fun _ => rfl,
  check := fun ps => evP_apps [13, 14] ck_apps (fun f hf => by
    simp only [List.mem_cons, List.not_mem_nil, or_false] at hf
    rcases hf with rfl | rfl
    · rfl
    · rfl) ps,
  usual := rfl, num0 := fun _ => rfl, num0pre := fun _ => rfl, tab := fun _ _ h => h.1.1, print := fun _ => rfl, printpre := fun _ => rfl,
  get := fun ps => noapps get_apps ps, set := fun ps => noapps set_apps ps, keys := fun ps => noapps keys_apps ps,
  diff := fun _ _ => rfl, same := fun _ _ => rfl, samepre := fun _ _ => rfl, parse := fun _ => rfl, parsepre := fun _ => rfl,
  lines := fun _ => rfl, linespre := fun _ => rfl, place := fun ps => noapps place_apps ps, inn := fun _ _ => rfl, innpre := fun _ _ => rfl,
  b21 := fun ps => noapps b21_apps ps, f27 := fun ps => noapps f27_apps ps }
theorem awake_okP : @FnOK cpSy Tryz.prog fsAwake := by
  refine ⟨fun w vs => MuLone.run_callFunc_enter Tryz.func4 (prog_N _ _ _ Tryz.func4 rfl) rfl vs w, fun F W ps vs hF hi ha hp => ?_⟩
  have hv : vs = #[] := by
    obtain ⟨_, h2⟩ := ha
    rw [← Array.toArray_toList (xs := vs), h2]
  subst hv
  refine (awake_any lawP.toLawS (fun _ => rfl) W hi).mono ?_
  rintro e w' ⟨rfl, hb⟩
  exact ⟨_, rfl, by show @resOK _ _ (PV.bool true) _; simp only [resOK, Tm.rp, Sh.rp]; rfl, hb⟩
noncomputable def cpsL : List Fs := [fsParse, fsRParse, fsAwake]
def cpsT : Tre := .br (.cmpi .lss (.int 600) (.lens (.var 0))) (.leaf (.app 10 (.nil))) (.must (.app 38 (.cons (.var 0) (.nil))) (.leaf (.app 10 (.nil))))
theorem cps_chk : chkA Tryz.prog cpsL 400 3 (mkA [.sh .str] 0) [.sh .bool] cpsT [] = true := by kernel_rfl
theorem cps_ev (s : ByteArray) : @Tre.ev (cpSy.at (envL [.str s])) cpsT = some (.bool true) := by
  unfold cpsT
  by_cases hs : 600 < (s.size : Int)
  · exact @ev_brT (cpSy.at (envL [.str s])) _ _ _ _ (congrArg PV.bool (decide_eq_true hs)) rfl
  · exact @ev_brF (cpSy.at (envL [.str s])) _ _ _ _ (congrArg PV.bool (decide_eq_false hs)) (@ev_must (cpSy.at (envL [.str s])) _ _ _ (congrArg PV.bool (decide_eq_true (show s.size ≤ 60000 by omega))) rfl)
theorem configParses_walk (s : ByteArray) (W : World) (hT : Tab W) (hM : MaxC W) (w0 : s.size ≤ maxLen) :
    Calls Tryz.prog 3 #[.string s] W fun e w' => e = .returned (.bool true) ∧ Below W.heap.size W w' := by
  letI : Sy := cpSy.at (envL [.str s])
  have hl : ∀ s ∈ cpsL, FnOK Tryz.prog s := fun s hs => by
    simp only [cpsL, List.mem_cons, List.not_mem_nil, or_false] at hs
    rcases hs with rfl | rfl | rfl
    · exact @parse_ok cpSy lawP.toLawS
    · exact @rparse_ok cpSy lawP
    · exact awake_okP
  have hne : ∀ s ∈ cpsL, s.f ≠ 3 := fun s hs => by
    simp only [cpsL, List.mem_cons, List.not_mem_nil, or_false] at hs
    rcases hs with rfl | rfl | rfl <;> exact of_decide_eq_true rfl
  have hv : argsOK (fun _ _ => none) [.sh .str] [.str s] (#[.string s] : Array Value).toList := ⟨_, _, _, _, rfl, rfl, by simp only [Tm.rp, Sh.rp]; rfl, rfl, rfl⟩
  have ha : AV.rps ⟨fun _ => none, fun _ _ => none⟩ (mkA [.sh .str] 0) (#[.string s] : Array Value).toList := @mkA_rp (cpSy.at (envL [.str s])) noDc (@noDc_ok (cpSy.at (envL [.str s]))) ⟨fun _ => none, fun _ _ => none⟩ [.sh .str] 0 [.str s] _ (fun i q hq => by
      rw [Nat.zero_add]
      show envL [.str s] i = q
      unfold envL
      rw [hq]) hv
  refine (chk_at prog_N prog_mixed hl hne (F := fun _ _ => none) (W := W) (vs := #[.string s]) (fun _ _ _ h => by cases h) (fun _ _ _ => Iff.rfl) (cfInv_of hT hM) (fun _ _ h => by cases h) ha cpsT [] cps_chk (fun p h => (List.not_mem_nil h).elim) _ (cps_ev s)).mono ?_
  rintro e w' ⟨v, rfl, h, hb⟩
  have h : Sh.rp (growF (fun _ _ => none) W w') .bool (PV.bool true) v := h
  simp only [Sh.rp] at h
  rw [h]
  exact ⟨rfl, hb⟩
end Go.Proofs.YtdflkikhmngfiaaGreatDoor

