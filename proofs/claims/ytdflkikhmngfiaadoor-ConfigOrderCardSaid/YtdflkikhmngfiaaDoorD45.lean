/- CaI · CaJ · CaK · CaL: joined by a program, for a claim has at most 60 files. -/
import Derived.Test.YtdflkikhmngfiaaDoorD43
import Derived.Test.YtdflkikhmngfiaaDoorD44
/- ConfigOrder: what it answers. -/
namespace Go.Proofs.YtdflkikhmngfiaaDoor
open Go.RowKit
set_option linter.unusedVariables false
set_option linter.unusedSimpArgs false
set_option linter.unusedSectionVars false
set_option maxRecDepth 100000

def r7 : Xp := .cons (.cell (.var 7) 0) (.cons (.cell (.var 7) 1) (.cons (.cell (.var 7) 2) (.cons (.cell (.var 7) 3) (.cons (.cell (.var 7) 4) (.cons (.cell (.var 7) 5) (.cons (.cell (.var 7) 6) (.cons (.cell (.var 7) 7) (.cons (.cell (.var 7) 8) (.cons (.cell (.var 7) 9) (.cons (.cell (.var 7) 10) (.cons (.cell (.var 7) 11) (.cons (.cell (.var 7) 12) (.cons (.cell (.var 7) 13) (.cons (.cell (.var 7) 14) .nil))))))))))))))
def r9 : Xp := .cons (.cell (.var 9) 0) (.cons (.cell (.var 9) 1) (.cons (.cell (.var 9) 2) (.cons (.cell (.var 9) 3) (.cons (.cell (.var 9) 4) (.cons (.cell (.var 9) 5) (.cons (.cell (.var 9) 6) (.cons (.cell (.var 9) 7) (.cons (.cell (.var 9) 8) (.cons (.cell (.var 9) 9) (.cons (.cell (.var 9) 10) (.cons (.cell (.var 9) 11) (.cons (.cell (.var 9) 12) (.cons (.cell (.var 9) 13) (.cons (.cell (.var 9) 14) .nil))))))))))))))
/-- One after the other. -/
theorem eqR9 : ∀ (env : Env) (v : Nat) (c : Nat → PV), env v = rowC c → PV.tup [(env v).cl 0, (env v).cl 1, (env v).cl 2, (env v).cl 3, (env v).cl 4, (env v).cl 5, (env v).cl 6, (env v).cl 7, (env v).cl 8, (env v).cl 9, (env v).cl 10, (env v).cl 11, (env v).cl 12, (env v).cl 13, (env v).cl 14] = rowC c := fun env v c h => by
  rw [h]
  exact row15 _ _ rfl rfl
def zCs : List Xp := (List.range 15).map fun i => .cmpi .eql (.cell (.var 12) i) (.int 0)
def xCs : List Xp := (List.range 15).map fun i => .cmpi .eql (.cell (.var 12) i) (.cell (.var 9) i)
def yCs : List Xp := (List.range 15).map fun i => .cmpi .eql (.cell (.var 13) i) (.cell (.var 9) i)

def tOK : Trl := .leaf (.fin (.app 10 .nil))
def thC : List Xp := [.cmpi .eql (.cell (.var 10) 2) (.int 12), .cmpi .eql (.cell (.var 11) 2) (.int 12)]
def okC : List Xp := [.cmpi .eql (.cell (.var 10) 2) (.int 0), .cmpi .eql (.cell (.var 11) 2) (.int 0)]
def rgC : List Xp := [.cmpi .eql (.cell (.var 10) 2) (.int 8), .cmpi .eql (.cell (.var 11) 2) (.int 8)]
theorem co_t7_is : co_t7 = .br (.eqs (.var 4) (.var 5)) (andsT (thC ++ zCs) tOK) (.br (.cmpi .eql (.app 12 (.cons r9 .nil)) (.int 0)) (andsT ([.cell (.var 6) 1, .cell (.var 8) 1] ++ (xCs ++ (yCs ++ okC))) tOK) (andsT rgC tOK)) := by kernel_rfl
def Tre.l08 : Tre → Bool
  | .leaf (.int n) => decide (n = 0) || decide (n = 8)
  | .br _ t f => t.l08 && f.l08
  | _ => false
theorem l08_is [Sy] : ∀ {T : Tre}, T.l08 = true → ∀ p, T.ev = some p → p.i = 0 ∨ p.i = 8
  | .leaf (.int n), h, p, hp => by
    injection hp with hp
    have h : (decide (n = 0) || decide (n = 8)) = true := h
    rw [Bool.or_eq_true] at h
    rw [← hp]
    rcases h with h | h
    · exact .inl (of_decide_eq_true h)
    · exact .inr (of_decide_eq_true h)
  | .br c t f, h, p, hp => by
    obtain ⟨h1, h2⟩ := and2 (show (t.l08 && f.l08) = true from h)
    unfold Tre.ev at hp
    split at hp
    · exact l08_is h1 p hp
    · exact l08_is h2 p hp
    · cases hp
theorem ck_l08 : ckT.l08 = true := by kernel_rfl
theorem ck_08 (c : PV) : (ckP [c]).i = 0 ∨ (ckP [c]).i = 8 := @l08_is (ckSy.at (envL [c])) _ ck_l08 _ (@evE_some ckSy ckT ck_tot [c])
theorem parse_of {s : ByteArray} {c : Nat → PV} {L : List ByteArray} (h : goF (linesF s) usC [] = .inr (c, L)) : @parseF chSy s = if (ckP [rowC c]).i = 0 then .tup [rowC c, .int 0, .int 0] else .tup [zeroC, .int 0, .int (ckP [rowC c]).i] := by
  unfold parseF
  rw [h]
  rfl
theorem parse_no {s : ByteArray} {n : Nat} {e : Int} (h : goF (linesF s) usC [] = .inl (n, e)) : @parseF chSy s = .tup [zeroC, .int n, .int e] := by
  unfold parseF
  rw [h]
def envO (i k n m : Nat) : Env := envL [.tup [.int i, .int k], .int n, .int m]
theorem wr16 {n : Nat} (hn : n ≤ 65535) : IntKind.i64.wrap (n : Int) = (n : Int) := IntWalk.i64_in _ (by omega)
theorem d17 {env : Env} {a b c : Xp} : @Xp.den (coSy.at env) (.app 17 (.cons a (.cons b (.cons c .nil)))) = @evP bareSy setT [@Xp.den (coSy.at env) a, @Xp.den (coSy.at env) b, @Xp.den (coSy.at env) c] := rfl
theorem rem15z : ∀ i : Nat, i < 256 → zop .rem .i64 (IntKind.i64.wrap (i : Int)) 15 = ((i % 15 : Nat) : Int) := fun i hi => by
  have h : (List.range 256).all (fun (i : Nat) => decide (zop .rem .i64 (IntKind.i64.wrap (i : Int)) 15 = ((i % 15 : Nat) : Int))) = true := by kernel_rfl
  exact of_decide_eq_true (List.all_eq_true.1 h i (List.mem_range.2 hi))
set_option maxHeartbeats 1000000 in
/-- Behind the first Set. -/
theorem co_1 {i k n m : Nat} (hi : i < 256) (hk : k < 256) (hn : n ≤ 65535) (hm : m ≤ 65535) : ∃ e : Env, @selR coSy co_t1 (envO i k n m) (.inl (0, e)) ∧ e 1 = .int n ∧ e 2 = .int m ∧ e 4 = .str (kB (i % 15)) ∧ e 5 = .str (kB (k % 15)) ∧ e 6 = .tup [rowC (setC (i % 15) n usC), .bool true] ∧ e 7 = rowC (setC (i % 15) n usC) := by
  have hki : i % 15 < 15 := Nat.mod_lt _ (by decide)
  have hkk : k % 15 < 15 := Nat.mod_lt _ (by decide)
  have hl : @Xp.den (coSy.at (envO i k n m)) (.app 9 .nil) = .lst ((List.range 15).map fun j => .str (kB j)) := keys_is
  have r0 : @Xp.den (coSy.at (envO i k n m)) (.bin .rem .i64 (.wrap .i64 (.cell (.var 0) 0)) (.int 15)) = .int ((i % 15 : Nat) : Int) := congrArg PV.int (rem15z i hi)
  have r1 : @Xp.den (coSy.at (envO i k n m)) (.bin .rem .i64 (.wrap .i64 (.cell (.var 0) 1)) (.int 15)) = .int ((k % 15 : Nat) : Int) := congrArg PV.int (rem15z k hk)
  have g : ∀ j, j < 15 → (((List.range 15).map fun j => PV.str (kB j)).getD j default) = .str (kB j) := fun j hj => by
    rw [List.getD_eq_getElem?_getD, List.getElem?_map, List.getElem?_range hj]; rfl
  have k0 : @Xp.den (coSy.at (envO i k n m)) (kyX 0) = .str (kB (i % 15)) := by
    show (((@Xp.den (coSy.at (envO i k n m)) (.app 9 .nil)).l.getD ((@Xp.den (coSy.at (envO i k n m)) (.bin .rem .i64 (.wrap .i64 (.cell (.var 0) 0)) (.int 15))).i).toNat default).row 1).getD 0 default = _
    rw [hl, r0]
    exact g _ hki
  have k1 : @Xp.den (coSy.at (envO i k n m)) (kyX 1) = .str (kB (k % 15)) := by
    show (((@Xp.den (coSy.at (envO i k n m)) (.app 9 .nil)).l.getD ((@Xp.den (coSy.at (envO i k n m)) (.bin .rem .i64 (.wrap .i64 (.cell (.var 0) 1)) (.int 15))).i).toNat default).row 1).getD 0 default = _
    rw [hl, r1]
    exact g _ hkk
  have c1 : @Xp.den (coSy.at (envO i k n m)) (.cmpi .eql (.lenl (.app 9 .nil)) (.int 15)) = .bool true := by
    show PV.bool (decide (((@Xp.den (coSy.at (envO i k n m)) (.app 9 .nil)).l.length : Int) = 15)) = _
    rw [hl]; rfl
  have ib : ∀ (e : Xp) (j : Nat), j < 15 → @Xp.den (coSy.at (envO i k n m)) e = .int (j : Int) → @Xp.den (coSy.at (envO i k n m)) (.inb e (.lenl (.app 9 .nil))) = .bool true := fun e j hj he => by
    show PV.bool (decide ((0 : Int) ≤ (@Xp.den (coSy.at (envO i k n m)) e).i) && decide ((@Xp.den (coSy.at (envO i k n m)) e).i < ((@Xp.den (coSy.at (envO i k n m)) (.app 9 .nil)).l.length : Int))) = _
    rw [hl, he]
    exact congrArg PV.bool (inb_ok (n := 15) hj)
  have s1 : @Xp.den (coSy.at (envO i k n m)) (.app 17 (.cons usX (.cons (kyX 0) (.cons (.wrap .i64 (.var 1)) .nil)))) = .tup [rowC (setC (i % 15) n usC), .bool true] := by
    have hus : @Xp.den (coSy.at (envO i k n m)) usX = rowC usC := by kernel_rfl
    have hw : @Xp.den (coSy.at (envO i k n m)) (.wrap .i64 (.var 1)) = .int (n : Int) := congrArg PV.int (wr16 hn)
    rw [d17, hus, k0, hw, set_at _ _ _ hki]
    rfl
  have s2 : @Xp.den (coSy.at (envO i k n m)) (.cell (.app 17 (.cons usX (.cons (kyX 0) (.cons (.wrap .i64 (.var 1)) .nil)))) 0) = rowC (setC (i % 15) n usC) := by
    show (@Xp.den (coSy.at (envO i k n m)) (.app 17 (.cons usX (.cons (kyX 0) (.cons (.wrap .i64 (.var 1)) .nil))))).cl 0 = _
    rw [s1]
    rfl
  have hsel : @Trl.sel (coSy.at (envO i k n m)) co_t1 = some (.at 0 [.var 0, .var 1, .var 2, .app 9 .nil, kyX 0, kyX 1, .app 17 (.cons usX (.cons (kyX 0) (.cons (.wrap .i64 (.var 1)) .nil))), .cell (.app 17 (.cons usX (.cons (kyX 0) (.cons (.wrap .i64 (.var 1)) .nil)))) 0] [(1, 1)]) := (sel_br c1).trans ((sel_must (ib _ _ hki r0)).trans ((sel_must (ib _ _ hkk r1)).trans rfl))
  refine ⟨_, selR_at (S := coSy) hsel, rfl, rfl, ?_, ?_, ?_, ?_⟩
  · exact k0
  · exact k1
  · exact s1
  · exact s2
end Go.Proofs.YtdflkikhmngfiaaDoor


/- ConfigOrder answers yes. -/
namespace Go.Proofs.YtdflkikhmngfiaaDoor
open Go.RowKit
set_option linter.unusedVariables false
set_option linter.unusedSimpArgs false
set_option linter.unusedSectionVars false
set_option maxRecDepth 100000

/-- Behind the second Set. -/
theorem co_2 {e : Env} {k m : Nat} (c : Nat → PV) (hk : k < 15) (hm : m ≤ 65535) (h2 : e 2 = .int m) (h5 : e 5 = .str (kB k)) (h7 : e 7 = rowC c) : ∃ e' : Env, @selR coSy co_t3 e (.inl (0, e')) ∧ (∀ j, j < 8 → e' j = e j) ∧ e' 8 = .tup [rowC (setC k m c), .bool true] ∧ e' 9 = rowC (setC k m c) := by
  have hr : @Xp.den (coSy.at e) r7 = rowC c := eqR9 e 7 c h7
  have hw : @Xp.den (coSy.at e) (.wrap .i64 (.var 2)) = .int (m : Int) := by
    show PV.int (IntKind.i64.wrap (e 2).i) = _
    rw [h2]
    exact congrArg PV.int (wr16 hm)
  have hk5 : @Xp.den (coSy.at e) (.var 5) = .str (kB k) := h5
  have s1 : @Xp.den (coSy.at e) (.app 17 (.cons r7 (.cons (.var 5) (.cons (.wrap .i64 (.var 2)) .nil)))) = .tup [rowC (setC k m c), .bool true] := by
    rw [d17, hr, hk5, hw, set_at _ _ _ hk]
    rfl
  have s2 : @Xp.den (coSy.at e) (.cell (.app 17 (.cons r7 (.cons (.var 5) (.cons (.wrap .i64 (.var 2)) .nil)))) 0) = rowC (setC k m c) := by
    show (@Xp.den (coSy.at e) (.app 17 (.cons r7 (.cons (.var 5) (.cons (.wrap .i64 (.var 2)) .nil))))).cl 0 = _
    rw [s1]
    rfl
  refine ⟨_, @selR_at coSy co_t3 e 0 [.var 0, .var 1, .var 2, .var 3, .var 4, .var 5, .var 6, .var 7, .app 17 (.cons r7 (.cons (.var 5) (.cons (.wrap .i64 (.var 2)) .nil))), .cell (.app 17 (.cons r7 (.cons (.var 5) (.cons (.wrap .i64 (.var 2)) .nil)))) 0] [(1, 1)] rfl, fun j hj => ?_, ?_, ?_⟩
  · have : j = 0 ∨ j = 1 ∨ j = 2 ∨ j = 3 ∨ j = 4 ∨ j = 5 ∨ j = 6 ∨ j = 7 := by omega
    rcases this with rfl | rfl | rfl | rfl | rfl | rfl | rfl | rfl <;> rfl
  · exact s1
  · exact s2
def lA : Xp := .app 18 (.cons (.var 4) (.cons (.wrap .i64 (.var 1)) .nil))
def lB : Xp := .app 18 (.cons (.var 5) (.cons (.wrap .i64 (.var 2)) .nil))
def tA : Xp := .cat (.cat lA (.str [10])) lB
def tB : Xp := .cat (.cat (.cat (.cat (.cat (.str [32, 32]) lB) (.str [32, 35, 32])) lA) (.str [10, 10])) lA
def mustsT : List Xp → Trl → Trl
  | [], T => T
  | c :: cs, T => .must c (mustsT cs T)
theorem sel_musts {S : Sy} {T : Trl} : ∀ {cs : List Xp}, (∀ c ∈ cs, c.den = .bool true) → (mustsT cs T).sel = T.sel
  | [], _ => rfl
  | c :: cs, h => (sel_must (h c (by simp))).trans (sel_musts (cs := cs) fun c hc => h c (by simp [hc]))
def rgX (e : Xp) : Xp := .rng (.int 0) (.lens e) (.int 1000000000)
def u3 : Xp := .cat (.str [32, 32]) lB
def u4 : Xp := .cat u3 (.str [32, 35, 32])
def u5 : Xp := .cat u4 lA
def u6 : Xp := .cat u5 (.str [10, 10])
def co5C : List Xp := [.app 98 (.cons (.var 4) (.cons (.wrap .i64 (.var 1)) .nil)), .app 98 (.cons (.var 5) (.cons (.wrap .i64 (.var 2)) .nil)), rgX (.cat lA (.str [10])), rgX tA, .app 38 (.cons tA .nil), rgX u3, rgX u4, rgX u5, rgX u6, rgX tB, .app 38 (.cons tB .nil)]
theorem co_t5_is : co_t5 = mustsT co5C (.leaf (.at 0 [.var 0, .var 1, .var 2, .var 3, .var 4, .var 5, .var 6, .var 7, .var 8, .var 9, .app 8 (.cons tA .nil), .app 8 (.cons tB .nil), .cell (.app 8 (.cons tA .nil)) 0, .cell (.app 8 (.cons tB .nil)) 0] [(1, 1), (2, 2), (3, 3)])) := by kernel_rfl
theorem d18 {env : Env} {a b : Xp} : @Xp.den (coSy.at env) (.app 18 (.cons a (.cons b .nil))) = .str ((@Xp.den (coSy.at env) a).s ++ bytesOf [32, 32, 32] ++ decS (@Xp.den (coSy.at env) b).i.toNat) := rfl
theorem d98 {env : Env} {a b : Xp} : @Xp.den (coSy.at env) (.app 98 (.cons a (.cons b .nil))) = .bool (decide ((@Xp.den (coSy.at env) a).s.size ≤ 1000 ∧ 0 ≤ (@Xp.den (coSy.at env) b).i ∧ (@Xp.den (coSy.at env) b).i ≤ 65535)) := rfl
theorem d38 {env : Env} {a : Xp} : @Xp.den (coSy.at env) (.app 38 (.cons a .nil)) = .bool (decide ((@Xp.den (coSy.at env) a).s.size ≤ 60000)) := rfl
theorem d8 {env : Env} {a : Xp} : @Xp.den (coSy.at env) (.app 8 (.cons a .nil)) = @parseF chSy (@Xp.den (coSy.at env) a).s := rfl
/-- Behind both Parses. -/
theorem co_3 {e : Env} {i k n m : Nat} (hi : i < 15) (hk : k < 15) (hn : n ≤ 65535) (hm : m ≤ 65535) (h1 : e 1 = .int n) (h2 : e 2 = .int m) (h4 : e 4 = .str (kB i)) (h5 : e 5 = .str (kB k)) : ∃ e' : Env, @selR coSy co_t5 e (.inl (0, e')) ∧ (∀ j, j < 10 → e' j = e j) ∧ e' 10 = @parseF chSy (txA i n k m) ∧ e' 11 = @parseF chSy (txB i n k m) ∧ e' 12 = (@parseF chSy (txA i n k m)).cl 0 ∧ e' 13 = (@parseF chSy (txB i n k m)).cl 0 := by
  have w1 : @Xp.den (coSy.at e) (.wrap .i64 (.var 1)) = .int (n : Int) := by
    show PV.int (IntKind.i64.wrap (e 1).i) = _
    rw [h1]
    exact congrArg PV.int (wr16 hn)
  have w2 : @Xp.den (coSy.at e) (.wrap .i64 (.var 2)) = .int (m : Int) := by
    show PV.int (IntKind.i64.wrap (e 2).i) = _
    rw [h2]
    exact congrArg PV.int (wr16 hm)
  have v4 : @Xp.den (coSy.at e) (.var 4) = .str (kB i) := h4
  have v5 : @Xp.den (coSy.at e) (.var 5) = .str (kB k) := h5
  have z1 := key_size i hi
  have z2 := key_size k hk
  have p1 : @Xp.den (coSy.at e) (.app 98 (.cons (.var 4) (.cons (.wrap .i64 (.var 1)) .nil))) = .bool true := by
    rw [d98, v4, w1]
    exact congrArg PV.bool (decide_eq_true ⟨by show (kB i).size ≤ 1000; unfold kB; omega, by show (0 : Int) ≤ (n : Int); omega, by show (n : Int) ≤ 65535; omega⟩)
  have p2 : @Xp.den (coSy.at e) (.app 98 (.cons (.var 5) (.cons (.wrap .i64 (.var 2)) .nil))) = .bool true := by
    rw [d98, v5, w2]
    exact congrArg PV.bool (decide_eq_true ⟨by show (kB k).size ≤ 1000; unfold kB; omega, by show (0 : Int) ≤ (m : Int); omega, by show (m : Int) ≤ 65535; omega⟩)
  have a : @Xp.den (coSy.at e) lA = .str (lnO i n) := by
    unfold lA
    rw [d18, v4, w1]
    rfl
  have b : @Xp.den (coSy.at e) lB = .str (lnO k m) := by
    unfold lB
    rw [d18, v5, w2]
    rfl
  have sA := lnO_size hi hn
  have sB := lnO_size hk hm
  have c10 : (bytesOf [10]).size = 1 := rfl
  have c1010 : (bytesOf [10, 10]).size = 2 := rfl
  have c32 : (bytesOf [32, 32]).size = 2 := rfl
  have c353 : (bytesOf [32, 35, 32]).size = 3 := rfl
  have q1 := @cat_den coSy e _ _ _ _ a (show @Xp.den (coSy.at e) (.str [10]) = .str (bytesOf [10]) from rfl)
  have q2 := @cat_den coSy e _ _ _ _ q1 b
  have q3 := @cat_den coSy e _ _ _ _ (show @Xp.den (coSy.at e) (.str [32, 32]) = .str (bytesOf [32, 32]) from rfl) b
  have q4 := @cat_den coSy e _ _ _ _ q3 (show @Xp.den (coSy.at e) (.str [32, 35, 32]) = .str (bytesOf [32, 35, 32]) from rfl)
  have q5 := @cat_den coSy e _ _ _ _ q4 a
  have q6 := @cat_den coSy e _ _ _ _ q5 (show @Xp.den (coSy.at e) (.str [10, 10]) = .str (bytesOf [10, 10]) from rfl)
  have q7 := @cat_den coSy e _ _ _ _ q6 a
  have L1 := @len_rng coSy e _ _ q1 (by simp only [bapp_size]; omega)
  have L2 := @len_rng coSy e _ _ q2 (by simp only [bapp_size]; omega)
  have L3 := @len_rng coSy e (.cat (.str [32, 32]) lB) _ q3 (by simp only [bapp_size]; omega)
  have L4 := @len_rng coSy e _ _ q4 (by simp only [bapp_size]; omega)
  have L5 := @len_rng coSy e _ _ q5 (by simp only [bapp_size]; omega)
  have L6 := @len_rng coSy e _ _ q6 (by simp only [bapp_size]; omega)
  have L7 := @len_rng coSy e _ _ q7 (by simp only [bapp_size]; omega)
  have t1 : @Xp.den (coSy.at e) (.app 38 (.cons tA .nil)) = .bool true := by
    rw [d38, show @Xp.den (coSy.at e) tA = _ from q2]
    exact congrArg PV.bool (decide_eq_true (by show (lnO i n ++ bytesOf [10] ++ lnO k m).size ≤ 60000; simp only [bapp_size]; omega))
  have t2 : @Xp.den (coSy.at e) (.app 38 (.cons tB .nil)) = .bool true := by
    rw [d38, show @Xp.den (coSy.at e) tB = _ from q7]
    exact congrArg PV.bool (decide_eq_true (by show (bytesOf [32, 32] ++ lnO k m ++ bytesOf [32, 35, 32] ++ lnO i n ++ bytesOf [10, 10] ++ lnO i n).size ≤ 60000; simp only [bapp_size]; omega))
  have x1 : @Xp.den (coSy.at e) (.app 8 (.cons tA .nil)) = @parseF chSy (txA i n k m) := by
    rw [d8, show @Xp.den (coSy.at e) tA = _ from q2]
    rfl
  have x2 : @Xp.den (coSy.at e) (.app 8 (.cons tB .nil)) = @parseF chSy (txB i n k m) := by
    rw [d8, show @Xp.den (coSy.at e) tB = _ from q7]
    rfl
  have hsel : @Trl.sel (coSy.at e) co_t5 = some (.at 0 [.var 0, .var 1, .var 2, .var 3, .var 4, .var 5, .var 6, .var 7, .var 8, .var 9, .app 8 (.cons tA .nil), .app 8 (.cons tB .nil), .cell (.app 8 (.cons tA .nil)) 0, .cell (.app 8 (.cons tB .nil)) 0] [(1, 1), (2, 2), (3, 3)]) := by
    rw [co_t5_is]
    refine (sel_musts fun c hc => ?_).trans rfl
    simp only [co5C, List.mem_cons, List.not_mem_nil, or_false] at hc
    rcases hc with rfl | rfl | rfl | rfl | rfl | rfl | rfl | rfl | rfl | rfl | rfl
    · exact p1
    · exact p2
    · exact L1
    · exact L2
    · exact t1
    · exact L3
    · exact L4
    · exact L5
    · exact L6
    · exact L7
    · exact t2
  refine ⟨_, selR_at (S := coSy) hsel, fun j hj => ?_, ?_, ?_, ?_, ?_⟩
  · have : j = 0 ∨ j = 1 ∨ j = 2 ∨ j = 3 ∨ j = 4 ∨ j = 5 ∨ j = 6 ∨ j = 7 ∨ j = 8 ∨ j = 9 := by omega
    rcases this with rfl | rfl | rfl | rfl | rfl | rfl | rfl | rfl | rfl | rfl <;> rfl
  · exact x1
  · exact x2
  · exact congrArg (fun p => PV.cl p 0) x1
  · exact congrArg (fun p => PV.cl p 0) x2
end Go.Proofs.YtdflkikhmngfiaaDoor


/- ConfigOrder answers yes: the whole. -/
namespace Go.Proofs.YtdflkikhmngfiaaDoor
open Go.RowKit
set_option linter.unusedVariables false
set_option linter.unusedSimpArgs false
set_option linter.unusedSectionVars false
set_option maxRecDepth 100000

theorem co_all {i k n m : Nat} (hi : i < 256) (hk : k < 256) (hn : n ≤ 65535) (hm : m ≤ 65535) : @co_R coSy (envO i k n m) (.inr (.bool true)) := by
  have ha : i % 15 < 15 := Nat.mod_lt _ (by decide)
  have hb : k % 15 < 15 := Nat.mod_lt _ (by decide)
  obtain ⟨e1, r1, a1, a2, a4, a5, a6, a7⟩ := co_1 hi hk hn hm
  generalize i % 15 = a at *
  generalize k % 15 = b at *
  obtain ⟨e2, r2, b0, b8, b9⟩ := co_2 (setC a n usC) hb hm a2 a5 a7
  obtain ⟨e, r3, c0, c10, c11, c12, c13⟩ := co_3 ha hb hn hm ((b0 1 (by omega)).trans a1) ((b0 2 (by omega)).trans a2) ((b0 4 (by omega)).trans a4) ((b0 5 (by omega)).trans a5)
  have f4 : e 4 = .str (kB a) := (c0 4 (by omega)).trans ((b0 4 (by omega)).trans a4)
  have f5 : e 5 = .str (kB b) := (c0 5 (by omega)).trans ((b0 5 (by omega)).trans a5)
  have f6 : e 6 = .tup [rowC (setC a n usC), .bool true] := (c0 6 (by omega)).trans ((b0 6 (by omega)).trans a6)
  have f8 : e 8 = .tup [rowC (setC b m (setC a n usC)), .bool true] := (c0 8 (by omega)).trans b8
  have f9 : e 9 = rowC (setC b m (setC a n usC)) := (c0 9 (by omega)).trans b9
  refine then_on (S := coSy) r1 (by omega) (then_on (S := coSy) r2 (by omega) (then_on (S := coSy) r3 (by omega) ?_))
  show @selR coSy co_t7 e _
  rw [co_t7_is]
  have d1 : @Xp.den (coSy.at e) (.eqs (.var 4) (.var 5)) = .bool (decide (kB a = kB b)) := by
    show PV.bool (decide ((e 4).s = (e 5).s)) = _
    rw [f4, f5]
    rfl
  by_cases hab : a = b
  · rw [hab, decide_eq_true rfl] at d1
    have g1 := parse_no (by rw [goA ha hn hb hm, if_pos hab])
    have g2 := parse_no (by rw [goB ha hn hb hm, if_pos hab])
    rw [g1] at c10 c12
    rw [g2] at c11
    refine @selR_fin coSy _ e (.app 10 .nil) ((sel_br d1).trans ((sel_ands fun c hc => ?_).trans rfl))
    rcases List.mem_append.1 hc with hc | hc
    · simp only [thC, List.mem_cons, List.not_mem_nil, or_false] at hc
      rcases hc with rfl | rfl
      · show PV.bool (decide (((e 10).cl 2).i = 12)) = _
        rw [c10]; rfl
      · show PV.bool (decide (((e 11).cl 2).i = 12)) = _
        rw [c11]; rfl
    · obtain ⟨j, hj, rfl⟩ := List.mem_map.1 hc
      show PV.bool (decide (((e 12).cl j).i = 0)) = _
      rw [c12]
      exact congrArg PV.bool (decide_eq_true (all15 (P := fun j => (zeroC.cl j).i = 0) rfl rfl rfl rfl rfl rfl rfl rfl rfl rfl rfl rfl rfl rfl rfl j (List.mem_range.1 hj)))
  · rw [decide_eq_false fun h => hab (kB_inj ha hb h)] at d1
    have g1 := parse_of (by rw [goA ha hn hb hm, if_neg hab])
    have g2 := parse_of (by rw [goB ha hn hb hm, if_neg hab, setC_comm hab])
    have d2 : @Xp.den (coSy.at e) (.cmpi .eql (.app 12 (.cons r9 .nil)) (.int 0)) = .bool (decide ((ckP [rowC (setC b m (setC a n usC))]).i = 0)) := by
      show PV.bool (decide ((ckP [@Xp.den (coSy.at e) r9]).i = 0)) = _
      rw [show @Xp.den (coSy.at e) r9 = _ from eqR9 e 9 _ f9]
    by_cases hc : (ckP [rowC (setC b m (setC a n usC))]).i = 0
    · rw [if_pos hc] at g1 g2
      rw [decide_eq_true hc] at d2
      rw [g1] at c10 c12
      rw [g2] at c11 c13
      refine @selR_fin coSy _ e (.app 10 .nil) ((sel_br d1).trans ((sel_br d2).trans ((sel_ands fun c hc => ?_).trans rfl)))
      rcases List.mem_append.1 hc with hc | hc
      · simp only [List.mem_cons, List.not_mem_nil, or_false] at hc
        rcases hc with rfl | rfl
        · show (e 6).cl 1 = _
          rw [f6]; rfl
        · show (e 8).cl 1 = _
          rw [f8]; rfl
      · rcases List.mem_append.1 hc with hc | hc
        · obtain ⟨j, hj, rfl⟩ := List.mem_map.1 hc
          show PV.bool (decide (((e 12).cl j).i = ((e 9).cl j).i)) = _
          rw [c12, f9]
          exact congrArg PV.bool (decide_eq_true rfl)
        · rcases List.mem_append.1 hc with hc | hc
          · obtain ⟨j, hj, rfl⟩ := List.mem_map.1 hc
            show PV.bool (decide (((e 13).cl j).i = ((e 9).cl j).i)) = _
            rw [c13, f9]
            exact congrArg PV.bool (decide_eq_true rfl)
          · simp only [okC, List.mem_cons, List.not_mem_nil, or_false] at hc
            rcases hc with rfl | rfl
            · show PV.bool (decide (((e 10).cl 2).i = 0)) = _
              rw [c10]; rfl
            · show PV.bool (decide (((e 11).cl 2).i = 0)) = _
              rw [c11]; rfl
    · have h8 : (ckP [rowC (setC b m (setC a n usC))]).i = 8 := (ck_08 _).resolve_left hc
      rw [if_neg hc, h8] at g1 g2
      rw [decide_eq_false hc] at d2
      rw [g1] at c10
      rw [g2] at c11
      refine @selR_fin coSy _ e (.app 10 .nil) ((sel_br d1).trans ((sel_br d2).trans ((sel_ands fun c hc => ?_).trans rfl)))
      simp only [rgC, List.mem_cons, List.not_mem_nil, or_false] at hc
      rcases hc with rfl | rfl
      · show PV.bool (decide (((e 10).cl 2).i = 8)) = _
        rw [c10]; rfl
      · show PV.bool (decide (((e 11).cl 2).i = 8)) = _
        rw [c11]; rfl
end Go.Proofs.YtdflkikhmngfiaaDoor


/- ConfigOrder's walk. -/
namespace Go.Proofs.YtdflkikhmngfiaaDoor
open Go.RowKit
set_option linter.unusedVariables false
set_option linter.unusedSimpArgs false
set_option linter.unusedSectionVars false
set_option maxRecDepth 100000

theorem configOrder_walk (i k n m : Nat) (W : World) (hT : Tab W) (hM : MaxC W) (hi : i < 256) (hk : k < 256) (hn : n < 65536) (hm : m < 65536) :
    Calls Tryd.prog 5 #[.agg #[.int .u8 (i : Int), .int .u8 (k : Int)], .int .u16 (n : Int), .int .u16 (m : Int)] W fun e w' => e = .returned (.bool true) ∧ Below W.heap.size W w' := by
  have hv : argsOK (fun _ _ => none) [.agg [.int .u8, .int .u8], .sh (.int .u16), .sh (.int .u16)] [.tup [.int i, .int k], .int n, .int m] (#[.agg #[.int .u8 (i : Int), .int .u8 (k : Int)], .int .u16 (n : Int), .int .u16 (m : Int)] : Array Value).toList :=
    ⟨_, _, _, _, rfl, rfl, ⟨_, rfl, _, _, rfl, by simp only [Sh.rp]; rfl, _, _, rfl, by simp only [Sh.rp]; rfl, rfl⟩, _, _, _, _, rfl, rfl, by simp only [Tm.rp, Sh.rp]; rfl, _, _, _, _, rfl, rfl, by simp only [Tm.rp, Sh.rp]; rfl, rfl, rfl⟩
  refine (@spec_fn coSy Tryd.prog 5 co_F co_C [.agg [.int .u8, .int .u8], .sh (.int .u16), .sh (.int .u16)] [.sh .bool] (@co_R coSy) Tryd.func5 co_body (@co_spec coSy coL_ok) (fun _ _ => none) W [.tup [.int i, .int k], .int n, .int m] _ (Nat.le_of_ble_eq_true (by kernel_rfl)) (fun _ _ _ h => by cases h) (fun _ _ _ => Iff.rfl) (cfInv_of hT hM) (fun _ _ h => by cases h) hv _ (co_all hi hk (by omega) (by omega))).mono ?_
  rintro e w' ⟨v, rfl, h, hb⟩
  have h : Sh.rp (growF (fun _ _ => none) W w') .bool (PV.bool true) v := h
  simp only [Sh.rp] at h
  rw [h]
  exact ⟨rfl, hb⟩
end Go.Proofs.YtdflkikhmngfiaaDoor

