/- CfU · CfV · CfW: joined by a program, for a claim has at most 60 files. -/
import Derived.Test.YtdflkikhmngfiaaGreatDoorZ30
import Derived.Test.YtdflkikhmngfiaaGreatDoorZ34
import Derived.WalkSmall
import Derived.Lib.AppendIntMem
import Derived.Deep.RegionHeld
import Derived.Test.YtdflkikhmngfiaaGreatDoorZ39
import Derived.Test.YtdflkikhmngfiaaGreatDoorZ23
/- Numerals and both Prints, by contract. -/
namespace Go.Proofs.YtdflkikhmngfiaaGreatDoor
open Go.RowKit
set_option linter.unusedVariables false
set_option linter.unusedSimpArgs false
set_option linter.unusedSectionVars false

theorem decS_big (n : Nat) (h : n ≤ 9223372036854775807) : (decS n).size ≤ 19 := by
  have h1 : (decS n).size = Lib.nDigits n := by rw [← Lib.decDigits_length]; rfl
  rw [h1]
  exact nDigits_le 18 n (by omega)
def okNum (p : PV) : Bool := decide (0 ≤ p.i ∧ p.i ≤ 9223372036854775807)
structure NumS (S : Sy) : Prop where
  num0 : ∀ n, S.fn 0 [n] = .str (decS n.i.toNat)
  num0pre : ∀ n, S.fn 90 [n] = .bool (okNum n)
  tab : ∀ B w, S.inv B w → Tab w
section
variable [S : Sy]
noncomputable def fsItoa : Fs := ⟨27, [.sh (.int .i64)], [.sh .str], 0, some 90⟩
theorem itoa_ok (hS : NumS S) : FnOK Tryz.prog fsItoa := by
  refine ⟨fun w vs => MuLone.run_callFunc_enter Tryz.func27 (prog_N _ _ _ Tryz.func27 rfl) rfl vs w, fun F W ps vs hF hi ha hp => ?_⟩
  obtain ⟨a, x, rfl, rfl, h1⟩ := args1 ha
  obtain rfl := int_rp h1
  have h := hp 90 rfl
  rw [hS.num0pre] at h
  injection h with h
  obtain ⟨h2, h3⟩ := of_decide_eq_true (show decide (0 ≤ a.i ∧ a.i ≤ 9223372036854775807) = true from h)
  have key : ∀ F', Sh.rp F' .str (S.fn 0 [a]) (.string ⟨(Lib.itoa a.i).toArray⟩) := fun F' => by
    rw [hS.num0]
    simp only [Sh.rp]
    have : (a.i.toNat : Int) = a.i := by omega
    rw [← this, Lib.itoa_nonneg]
    simp only [Int.toNat_natCast]
    rfl
  refine (Tryz.strconv_Itoa a.i (by omega) h3 W (hS.tab _ _ hi)).mono ?_
  rintro e w' ⟨rfl, k, os, rfl⟩
  refine ⟨_, rfl, ?_, ?_⟩
  · exact key (fun _ _ => none)
  · exact Lib.below_grow _ _ (Nat.le_refl _) _ _
end
end Go.Proofs.YtdflkikhmngfiaaGreatDoor


/- Both Prints in plain Lean; as functions by contract. -/
namespace Go.Proofs.YtdflkikhmngfiaaGreatDoor
open Go.RowKit
set_option linter.unusedVariables false
set_option linter.unusedSimpArgs false
set_option linter.unusedSectionVars false
set_option maxRecDepth 10000

def ut (i : Nat) : Int := [8, 16, 1, 10, 100, 5, 20, 1, 1, 1000, 4, 8, 4, 10, 100].getD i 0
/-- A line of a making's text. -/
def lnB (i : Nat) (n : Int) : ByteArray := bytesOf (keyAt i) ++ (bytesOf [32] ++ (decS n.toNat ++ bytesOf [10]))
def prTo (c : PV) : Nat → ByteArray
  | 0 => ⟨#[]⟩
  | i + 1 => if (c.cl i).i = ut i ∨ (c.cl i).i < 0 then prTo c i else prTo c i ++ lnB i (c.cl i).i
def okCfg (c : PV) : Bool := (List.range 15).all fun j => decide ((c.cl j).i ≤ 9223372036854775807)
theorem okCfg_at {c : PV} (h : okCfg c = true) (j : Nat) (hj : j < 15) : (c.cl j).i ≤ 9223372036854775807 := of_decide_eq_true (List.all_eq_true.1 h j (List.mem_range.2 hj))
theorem bapp_size (a b : ByteArray) : (a ++ b).size = a.size + b.size := by simp
theorem key_size : ∀ i, i < 15 → (bytesOf (keyAt i)).size ≤ 7 := all15 (by decide) (by decide) (by decide) (by decide) (by decide) (by decide) (by decide) (by decide) (by decide) (by decide) (by decide) (by decide) (by decide) (by decide) (by decide)
theorem lnB_size {i : Nat} (hi : i < 15) {n : Int} (h : n ≤ 9223372036854775807) : (lnB i n).size ≤ 30 := by
  unfold lnB
  rw [bapp_size, bapp_size, bapp_size]
  have h1 := key_size i hi
  have h2 := decS_big n.toNat (by omega)
  have h3 : (bytesOf [32]).size = 1 := rfl
  have h4 : (bytesOf [10]).size = 1 := rfl
  omega
theorem prTo_size {c : PV} (h : okCfg c = true) : ∀ i, i ≤ 15 → (prTo c i).size ≤ 30 * i
  | 0, _ => Nat.le_refl _
  | i + 1, hi => by
    have ih := prTo_size h i (by omega)
    unfold prTo
    split
    · omega
    · rw [bapp_size]
      have := lnB_size (i := i) (by omega) (okCfg_at h i (by omega))
      omega
def prX (i : Nat) : Xp := .app 0 (.cons (.cell (.var 0) i) .nil)
def cpG (i : Nat) : Trl := .br (.cmpi .eql (.cell (.var 0) i) (.int (ut i))) (.leaf (.at (i + 1) [.var 0, .var 1] [(0, 0), (2, 2), (4, 4)])) (.br (.cmpi .lss (.cell (.var 0) i) (.int 0)) (.leaf (.at (i + 1) [.var 0, .var 1] [(0, 0), (2, 2), (4, 4)])) (.must (.app 90 (.cons (.cell (.var 0) i) .nil)) (.must (.rng (.int 0) (.lens (.cat (.str (keyAt i ++ [32])) (prX i))) (.int 1000000000)) (.must (.rng (.int 0) (.lens (.cat (.cat (.str (keyAt i ++ [32])) (prX i)) (.str [10]))) (.int 1000000000)) (.must (.rng (.int 0) (.lens (.cat (.var 1) (.cat (.cat (.str (keyAt i ++ [32])) (prX i)) (.str [10])))) (.int 1000000000)) (.leaf (.at (i + 1) [.var 0, .cat (.var 1) (.cat (.cat (.str (keyAt i ++ [32])) (prX i)) (.str [10]))] [(0, 0), (2, 2), (4, 4)])))))))
def rpG (i : Nat) : Trl := .br (.cmpi .eql (.cell (.var 0) i) (.int (ut i))) (.leaf (.at (i + 1) [.var 0, .var 1] [(1, 1), (3, 3), (6, 6)])) (.br (.cmpi .lss (.cell (.var 0) i) (.int 0)) (.leaf (.at (i + 1) [.var 0, .var 1] [(1, 1), (3, 3), (6, 6)])) (.must (.rng (.int 0) (.lens (.cat (.var 1) (.str (keyAt i)))) (.int 1000000000)) (.must (.rng (.int 0) (.lens (.cat (.cat (.var 1) (.str (keyAt i))) (.str [32]))) (.int 1000000000)) (.must (.app 90 (.cons (.cell (.var 0) i) .nil)) (.must (.rng (.int 0) (.lens (.cat (.cat (.cat (.var 1) (.str (keyAt i))) (.str [32])) (prX i))) (.int 1000000000)) (.must (.rng (.int 0) (.lens (.cat (.cat (.cat (.cat (.var 1) (.str (keyAt i))) (.str [32])) (prX i)) (.str [10]))) (.int 1000000000)) (.leaf (.at (i + 1) [.var 0, .cat (.cat (.cat (.cat (.var 1) (.str (keyAt i))) (.str [32])) (prX i)) (.str [10])] [(1, 1), (3, 3), (6, 6)]))))))))
theorem cpG_is : ∀ i, i < 15 → cp_ts1 i = cpG i := all15 rfl rfl rfl rfl rfl rfl rfl rfl rfl rfl rfl rfl rfl rfl rfl
theorem rpG_is : ∀ i, i < 15 → rp_ts1 i = rpG i := all15 rfl rfl rfl rfl rfl rfl rfl rfl rfl rfl rfl rfl rfl rfl rfl
structure PrS (S : Sy) : Prop extends NumS S where
  print : ∀ c, S.fn 7 [c] = .str (prTo c 15)
  printpre : ∀ c, S.fn 94 [c] = .bool (okCfg c)
theorem rng_ok {n : Nat} (h : n ≤ 1000000000) : (decide ((0 : Int) ≤ 0) && (decide ((0 : Int) ≤ (n : Int)) && decide ((n : Int) ≤ 1000000000))) = true := by
  rw [decide_eq_true (Int.le_refl 0), decide_eq_true (Int.natCast_nonneg n), decide_eq_true (show (n : Int) ≤ 1000000000 by omega)]
  rfl
section
variable [S : Sy]
theorem len_rng {env : Env} {e : Xp} {s : ByteArray} (h : @Xp.den (S.at env) e = .str s) (hs : s.size ≤ 1000000000) : @Xp.den (S.at env) (.rng (.int 0) (.lens e) (.int 1000000000)) = .bool true := by
  show PV.bool (decide ((0 : Int) ≤ 0) && (decide ((0 : Int) ≤ ((@Xp.den (S.at env) e).s.size : Int)) && decide (((@Xp.den (S.at env) e).s.size : Int) ≤ 1000000000))) = _
  rw [h]
  exact congrArg PV.bool (rng_ok hs)
theorem cat_den {env : Env} {a b : Xp} {x y : ByteArray} (ha : @Xp.den (S.at env) a = .str x) (hb : @Xp.den (S.at env) b = .str y) : @Xp.den (S.at env) (.cat a b) = .str (x ++ y) := by
  show PV.str ((@Xp.den (S.at env) a).s ++ (@Xp.den (S.at env) b).s) = _
  rw [ha, hb]
  rfl
theorem ba_assoc (a b c : ByteArray) : a ++ b ++ c = a ++ (b ++ c) := ByteArray.append_assoc
theorem keySp (i : Nat) : bytesOf (keyAt i ++ [32]) = bytesOf (keyAt i) ++ bytesOf [32] := by
  apply ByteArray.ext
  simp [bytesOf]
/-- A round of a Print. -/
theorem pr_step (hS : PrS S) (env : Env) (i : Nat) (hi : i < 15) (hc : okCfg (env 0) = true) (h1 : env 1 = .str (prTo (env 0) i)) :
    (∃ env' : Env, selR (cp_ts1 i) env (.inl (i + 1, env')) ∧ env' 0 = env 0 ∧ env' 1 = .str (prTo (env 0) (i + 1))) ∧
    (∃ env' : Env, selR (rp_ts1 i) env (.inl (i + 1, env')) ∧ env' 0 = env 0 ∧ env' 1 = .str (prTo (env 0) (i + 1))) := by
  rw [cpG_is i hi, rpG_is i hi]
  have hsz := prTo_size hc i (by omega)
  have hci := okCfg_at hc i hi
  have hk := key_size i hi
  have hd := decS_big ((env 0).cl i).i.toNat (by omega)
  have h3 : (bytesOf [32]).size = 1 := rfl
  have h4 : (bytesOf [10]).size = 1 := rfl
  have c1 : @Xp.den (S.at env) (.cmpi .eql (.cell (.var 0) i) (.int (ut i))) = .bool (decide (((env 0).cl i).i = ut i)) := rfl
  have c2 : @Xp.den (S.at env) (.cmpi .lss (.cell (.var 0) i) (.int 0)) = .bool (decide (((env 0).cl i).i < 0)) := rfl
  by_cases he : ((env 0).cl i).i = ut i
  · rw [decide_eq_true he] at c1
    have hp : prTo (env 0) (i + 1) = prTo (env 0) i := if_pos (.inl he)
    rw [hp]
    exact ⟨⟨_, selR_at (T := cpG i) ((sel_br c1).trans rfl), rfl, h1⟩, ⟨_, selR_at (T := rpG i) ((sel_br c1).trans rfl), rfl, h1⟩⟩
  · rw [decide_eq_false he] at c1
    by_cases hn : ((env 0).cl i).i < 0
    · rw [decide_eq_true hn] at c2
      have hp : prTo (env 0) (i + 1) = prTo (env 0) i := if_pos (.inr hn)
      rw [hp]
      exact ⟨⟨_, selR_at (T := cpG i) ((sel_br c1).trans ((sel_br c2).trans rfl)), rfl, h1⟩, ⟨_, selR_at (T := rpG i) ((sel_br c1).trans ((sel_br c2).trans rfl)), rfl, h1⟩⟩
    · rw [decide_eq_false hn] at c2
      have hp : prTo (env 0) (i + 1) = prTo (env 0) i ++ lnB i ((env 0).cl i).i := if_neg (by rintro (h | h); exact he h; exact hn h)
      have c3 : @Xp.den (S.at env) (.app 90 (.cons (.cell (.var 0) i) .nil)) = .bool true := by
        show S.fn 90 [(env 0).cl i] = _
        rw [hS.num0pre]
        exact congrArg PV.bool (decide_eq_true ⟨by omega, hci⟩)
      have hx : @Xp.den (S.at env) (prX i) = .str (decS ((env 0).cl i).i.toNat) := by
        show S.fn 0 [(env 0).cl i] = _
        rw [hS.num0]
      have k1 : @Xp.den (S.at env) (.str (keyAt i ++ [32])) = .str (bytesOf (keyAt i) ++ bytesOf [32]) := congrArg PV.str (keySp i)
      have d1 := cat_den k1 hx
      have d2 := cat_den d1 (show @Xp.den (S.at env) (.str [10]) = .str (bytesOf [10]) from rfl)
      have d3 := cat_den (show @Xp.den (S.at env) (.var 1) = .str (prTo (env 0) i) from h1) d2
      have e1 := cat_den (show @Xp.den (S.at env) (.var 1) = .str (prTo (env 0) i) from h1) (show @Xp.den (S.at env) (.str (keyAt i)) = .str (bytesOf (keyAt i)) from rfl)
      have e2 := cat_den e1 (show @Xp.den (S.at env) (.str [32]) = .str (bytesOf [32]) from rfl)
      have e3 := cat_den e2 hx
      have e4 := cat_den e3 (show @Xp.den (S.at env) (.str [10]) = .str (bytesOf [10]) from rfl)
      have b1 : (bytesOf (keyAt i) ++ bytesOf [32] ++ decS ((env 0).cl i).i.toNat).size ≤ 1000000000 := by rw [bapp_size, bapp_size]; omega
      have b2 : (bytesOf (keyAt i) ++ bytesOf [32] ++ decS ((env 0).cl i).i.toNat ++ bytesOf [10]).size ≤ 1000000000 := by rw [bapp_size, bapp_size, bapp_size]; omega
      have b3 : (prTo (env 0) i ++ (bytesOf (keyAt i) ++ bytesOf [32] ++ decS ((env 0).cl i).i.toNat ++ bytesOf [10])).size ≤ 1000000000 := by rw [bapp_size, bapp_size, bapp_size, bapp_size]; omega
      have a1 : (prTo (env 0) i ++ bytesOf (keyAt i)).size ≤ 1000000000 := by rw [bapp_size]; omega
      have a2 : (prTo (env 0) i ++ bytesOf (keyAt i) ++ bytesOf [32]).size ≤ 1000000000 := by rw [bapp_size, bapp_size]; omega
      have a3 : (prTo (env 0) i ++ bytesOf (keyAt i) ++ bytesOf [32] ++ decS ((env 0).cl i).i.toNat).size ≤ 1000000000 := by rw [bapp_size, bapp_size, bapp_size]; omega
      have a4 : (prTo (env 0) i ++ bytesOf (keyAt i) ++ bytesOf [32] ++ decS ((env 0).cl i).i.toNat ++ bytesOf [10]).size ≤ 1000000000 := by rw [bapp_size, bapp_size, bapp_size, bapp_size]; omega
      rw [hp]
      refine ⟨⟨_, selR_at (T := cpG i) ((sel_br c1).trans ((sel_br c2).trans ((sel_must c3).trans ((sel_must (len_rng d1 b1)).trans ((sel_must (len_rng d2 b2)).trans ((sel_must (len_rng d3 b3)).trans rfl)))))), rfl, d3.trans ?_⟩, ⟨_, selR_at (T := rpG i) ((sel_br c1).trans ((sel_br c2).trans ((sel_must (len_rng e1 a1)).trans ((sel_must (len_rng e2 a2)).trans ((sel_must c3).trans ((sel_must (len_rng e3 a3)).trans ((sel_must (len_rng e4 a4)).trans rfl))))))), rfl, e4.trans ?_⟩⟩
      · unfold lnB
        rw [ba_assoc, ba_assoc]
      · unfold lnB
        rw [ba_assoc, ba_assoc, ba_assoc]
theorem cp_all (hS : PrS S) (env : Env) (hc : okCfg (env 0) = true) : cp_R env (.inr (.str (prTo (env 0) 15))) := by
  obtain ⟨out, h1, e, rfl, h2⟩ := loop_runH (nH := 16) (nE := 1) (R := fun k => selR (cp_ts1 k)) (fun i e => e 0 = env 0 ∧ e 1 = .str (prTo (env 0) i)) (fun out => ∃ e, out = .inl (0, e) ∧ e 1 = .str (prTo (env 0) 15))
    (fun i e hi ⟨k0, k1⟩ => by
      by_cases h : i < 15
      · obtain ⟨⟨e', q1, q2, q3⟩, _⟩ := pr_step hS e i h (by rw [k0]; exact hc) (by rw [k0]; exact k1)
        exact .inl ⟨e', q1, by omega, q2.trans k0, by rw [q3, k0]⟩
      · obtain rfl : i = 15 := by omega
        exact .inr (.inl ⟨0, _, by omega, selR_at (T := cp_ts1 15) (k := 16) (σ := [.var 0, .var 1]) (r := []) rfl, _, rfl, k1⟩))
    15 0 (@envOf (S.at (@envOf (S.at env) [.var 0])) [.var 0, .str []]) rfl ⟨rfl, rfl⟩
  refine then_on (selR_at (T := cp_t1) (k := 0) (σ := [.var 0]) rfl) (by omega) (then_on (k := 0) (e := e) (then_on (selR_at (T := cp_t3) (k := 0) (σ := [.var 0, .str []]) rfl) (by omega) h1) (by omega) ?_)
  rw [← h2]
  exact selR_fin (T := cp_t6) (e := .var 1) rfl
theorem rp_all (hS : PrS S) (env : Env) (hc : okCfg (env 0) = true) : rp_R env (.inr (.str (prTo (env 0) 15))) := by
  obtain ⟨out, h1, e, rfl, h2⟩ := loop_runH (nH := 16) (nE := 1) (R := fun k => selR (rp_ts1 k)) (fun i e => e 0 = env 0 ∧ e 1 = .str (prTo (env 0) i)) (fun out => ∃ e, out = .inl (0, e) ∧ e 1 = .str (prTo (env 0) 15))
    (fun i e hi ⟨k0, k1⟩ => by
      by_cases h : i < 15
      · obtain ⟨_, ⟨e', q1, q2, q3⟩⟩ := pr_step hS e i h (by rw [k0]; exact hc) (by rw [k0]; exact k1)
        exact .inl ⟨e', q1, by omega, q2.trans k0, by rw [q3, k0]⟩
      · obtain rfl : i = 15 := by omega
        exact .inr (.inl ⟨0, _, by omega, selR_at (T := rp_ts1 15) (k := 16) (σ := [.var 0, .var 1]) (r := []) rfl, _, rfl, k1⟩))
    15 0 (@envOf (S.at (@envOf (S.at env) [.var 0])) [.var 0, .str []]) rfl ⟨rfl, rfl⟩
  refine then_on (selR_at (T := rp_t1) (k := 0) (σ := [.var 0]) rfl) (by omega) (then_on (k := 0) (e := e) (then_on (selR_at (T := rp_t3) (k := 0) (σ := [.var 0, .str []]) rfl) (by omega) h1) (by omega) ?_)
  rw [← h2]
  exact selR_fin (T := rp_t6) (e := .var 1) rfl
theorem PrS.lo {S : Sy} (h : PrS S) (F : Fz) : PrS (S.lo F) := ⟨⟨h.num0, h.num0pre, h.tab⟩, h.print, h.printpre⟩
noncomputable def fsCPrint : Fs := ⟨10, [.agg i15], [.sh .str], 7, some 94⟩
theorem cprint_ok (hS : PrS S) : FnOK Tryz.prog fsCPrint := by
  have hO : ∀ s ∈ cpL, FnOK Tryz.prog s := fun s hs => by
    obtain rfl := List.mem_singleton.1 hs
    exact itoa_ok hS.toNumS
  refine fn_ok (c := cp_C) Tryz.func10 cp_body (fun w vs => MuLone.run_callFunc_enter Tryz.func10 (prog_N _ _ _ Tryz.func10 cp_body) cp_body vs w) (by kernel_rfl) (R := fun F => @cp_R (S.lo F)) (fun F => @cp_spec (S.lo F) hO) fun F ps hl hp => ?_
  match ps, hl with
  | [a], _ =>
    have h := hp 94 rfl
    rw [hS.printpre] at h
    injection h with h
    rw [hS.print]
    exact @cp_all (S.lo F) (hS.lo F) (envL [a]) h
end
end Go.Proofs.YtdflkikhmngfiaaGreatDoor


/- Get, Set, Keys of both; Parse as a function by contract. -/
namespace Go.Proofs.YtdflkikhmngfiaaGreatDoor
open Go.RowKit
set_option linter.unusedVariables false
set_option linter.unusedSimpArgs false
set_option linter.unusedSectionVars false
set_option maxRecDepth 100000

def getT : Tre := .br (.eqs (.str [99, 111, 110, 110, 115]) (.var 1)) (.leaf (.cons (.cell (.var 0) 0) (.cons (.bool true) (.nil)))) (.br (.eqs (.str [115, 116, 114, 101, 97, 109, 115]) (.var 1)) (.leaf (.cons (.cell (.var 0) 1) (.cons (.bool true) (.nil)))) (.br (.eqs (.str [108, 101, 97, 115, 116]) (.var 1)) (.leaf (.cons (.cell (.var 0) 2) (.cons (.bool true) (.nil)))) (.br (.eqs (.str [108, 111, 119]) (.var 1)) (.leaf (.cons (.cell (.var 0) 3) (.cons (.bool true) (.nil)))) (.br (.eqs (.str [104, 105, 103, 104]) (.var 1)) (.leaf (.cons (.cell (.var 0) 4) (.cons (.bool true) (.nil)))) (.br (.eqs (.str [113, 117, 105, 101, 116]) (.var 1)) (.leaf (.cons (.cell (.var 0) 5) (.cons (.bool true) (.nil)))) (.br (.eqs (.str [98, 117, 114, 115, 116]) (.var 1)) (.leaf (.cons (.cell (.var 0) 6) (.cons (.bool true) (.nil)))) (.br (.eqs (.str [114, 97, 116, 101]) (.var 1)) (.leaf (.cons (.cell (.var 0) 7) (.cons (.bool true) (.nil)))) (.br (.eqs (.str [112, 101, 114]) (.var 1)) (.leaf (.cons (.cell (.var 0) 8) (.cons (.bool true) (.nil)))) (.br (.eqs (.str [99, 97, 112]) (.var 1)) (.leaf (.cons (.cell (.var 0) 9) (.cons (.bool true) (.nil)))) (.br (.eqs (.str [113, 117, 97, 110, 116, 117, 109]) (.var 1)) (.leaf (.cons (.cell (.var 0) 10) (.cons (.bool true) (.nil)))) (.br (.eqs (.str [108, 105, 109, 105, 116]) (.var 1)) (.leaf (.cons (.cell (.var 0) 11) (.cons (.bool true) (.nil)))) (.br (.eqs (.str [119, 111, 114, 107, 101, 114, 115]) (.var 1)) (.leaf (.cons (.cell (.var 0) 12) (.cons (.bool true) (.nil)))) (.br (.eqs (.str [115, 101, 99, 111, 110, 100]) (.var 1)) (.leaf (.cons (.cell (.var 0) 13) (.cons (.bool true) (.nil)))) (.br (.eqs (.str [119, 97, 105, 116]) (.var 1)) (.leaf (.cons (.cell (.var 0) 14) (.cons (.bool true) (.nil)))) (.leaf (.cons (.int 0) (.cons (.bool false) (.nil))))))))))))))))))
def setT : Tre := .br (.eqs (.str [99, 111, 110, 110, 115]) (.var 1)) (.leaf (.cons (.cons (.var 2) (.cons (.cell (.var 0) 1) (.cons (.cell (.var 0) 2) (.cons (.cell (.var 0) 3) (.cons (.cell (.var 0) 4) (.cons (.cell (.var 0) 5) (.cons (.cell (.var 0) 6) (.cons (.cell (.var 0) 7) (.cons (.cell (.var 0) 8) (.cons (.cell (.var 0) 9) (.cons (.cell (.var 0) 10) (.cons (.cell (.var 0) 11) (.cons (.cell (.var 0) 12) (.cons (.cell (.var 0) 13) (.cons (.cell (.var 0) 14) (.nil)))))))))))))))) (.cons (.bool true) (.nil)))) (.br (.eqs (.str [115, 116, 114, 101, 97, 109, 115]) (.var 1)) (.leaf (.cons (.cons (.cell (.var 0) 0) (.cons (.var 2) (.cons (.cell (.var 0) 2) (.cons (.cell (.var 0) 3) (.cons (.cell (.var 0) 4) (.cons (.cell (.var 0) 5) (.cons (.cell (.var 0) 6) (.cons (.cell (.var 0) 7) (.cons (.cell (.var 0) 8) (.cons (.cell (.var 0) 9) (.cons (.cell (.var 0) 10) (.cons (.cell (.var 0) 11) (.cons (.cell (.var 0) 12) (.cons (.cell (.var 0) 13) (.cons (.cell (.var 0) 14) (.nil)))))))))))))))) (.cons (.bool true) (.nil)))) (.br (.eqs (.str [108, 101, 97, 115, 116]) (.var 1)) (.leaf (.cons (.cons (.cell (.var 0) 0) (.cons (.cell (.var 0) 1) (.cons (.var 2) (.cons (.cell (.var 0) 3) (.cons (.cell (.var 0) 4) (.cons (.cell (.var 0) 5) (.cons (.cell (.var 0) 6) (.cons (.cell (.var 0) 7) (.cons (.cell (.var 0) 8) (.cons (.cell (.var 0) 9) (.cons (.cell (.var 0) 10) (.cons (.cell (.var 0) 11) (.cons (.cell (.var 0) 12) (.cons (.cell (.var 0) 13) (.cons (.cell (.var 0) 14) (.nil)))))))))))))))) (.cons (.bool true) (.nil)))) (.br (.eqs (.str [108, 111, 119]) (.var 1)) (.leaf (.cons (.cons (.cell (.var 0) 0) (.cons (.cell (.var 0) 1) (.cons (.cell (.var 0) 2) (.cons (.var 2) (.cons (.cell (.var 0) 4) (.cons (.cell (.var 0) 5) (.cons (.cell (.var 0) 6) (.cons (.cell (.var 0) 7) (.cons (.cell (.var 0) 8) (.cons (.cell (.var 0) 9) (.cons (.cell (.var 0) 10) (.cons (.cell (.var 0) 11) (.cons (.cell (.var 0) 12) (.cons (.cell (.var 0) 13) (.cons (.cell (.var 0) 14) (.nil)))))))))))))))) (.cons (.bool true) (.nil)))) (.br (.eqs (.str [104, 105, 103, 104]) (.var 1)) (.leaf (.cons (.cons (.cell (.var 0) 0) (.cons (.cell (.var 0) 1) (.cons (.cell (.var 0) 2) (.cons (.cell (.var 0) 3) (.cons (.var 2) (.cons (.cell (.var 0) 5) (.cons (.cell (.var 0) 6) (.cons (.cell (.var 0) 7) (.cons (.cell (.var 0) 8) (.cons (.cell (.var 0) 9) (.cons (.cell (.var 0) 10) (.cons (.cell (.var 0) 11) (.cons (.cell (.var 0) 12) (.cons (.cell (.var 0) 13) (.cons (.cell (.var 0) 14) (.nil)))))))))))))))) (.cons (.bool true) (.nil)))) (.br (.eqs (.str [113, 117, 105, 101, 116]) (.var 1)) (.leaf (.cons (.cons (.cell (.var 0) 0) (.cons (.cell (.var 0) 1) (.cons (.cell (.var 0) 2) (.cons (.cell (.var 0) 3) (.cons (.cell (.var 0) 4) (.cons (.var 2) (.cons (.cell (.var 0) 6) (.cons (.cell (.var 0) 7) (.cons (.cell (.var 0) 8) (.cons (.cell (.var 0) 9) (.cons (.cell (.var 0) 10) (.cons (.cell (.var 0) 11) (.cons (.cell (.var 0) 12) (.cons (.cell (.var 0) 13) (.cons (.cell (.var 0) 14) (.nil)))))))))))))))) (.cons (.bool true) (.nil)))) (.br (.eqs (.str [98, 117, 114, 115, 116]) (.var 1)) (.leaf (.cons (.cons (.cell (.var 0) 0) (.cons (.cell (.var 0) 1) (.cons (.cell (.var 0) 2) (.cons (.cell (.var 0) 3) (.cons (.cell (.var 0) 4) (.cons (.cell (.var 0) 5) (.cons (.var 2) (.cons (.cell (.var 0) 7) (.cons (.cell (.var 0) 8) (.cons (.cell (.var 0) 9) (.cons (.cell (.var 0) 10) (.cons (.cell (.var 0) 11) (.cons (.cell (.var 0) 12) (.cons (.cell (.var 0) 13) (.cons (.cell (.var 0) 14) (.nil)))))))))))))))) (.cons (.bool true) (.nil)))) (.br (.eqs (.str [114, 97, 116, 101]) (.var 1)) (.leaf (.cons (.cons (.cell (.var 0) 0) (.cons (.cell (.var 0) 1) (.cons (.cell (.var 0) 2) (.cons (.cell (.var 0) 3) (.cons (.cell (.var 0) 4) (.cons (.cell (.var 0) 5) (.cons (.cell (.var 0) 6) (.cons (.var 2) (.cons (.cell (.var 0) 8) (.cons (.cell (.var 0) 9) (.cons (.cell (.var 0) 10) (.cons (.cell (.var 0) 11) (.cons (.cell (.var 0) 12) (.cons (.cell (.var 0) 13) (.cons (.cell (.var 0) 14) (.nil)))))))))))))))) (.cons (.bool true) (.nil)))) (.br (.eqs (.str [112, 101, 114]) (.var 1)) (.leaf (.cons (.cons (.cell (.var 0) 0) (.cons (.cell (.var 0) 1) (.cons (.cell (.var 0) 2) (.cons (.cell (.var 0) 3) (.cons (.cell (.var 0) 4) (.cons (.cell (.var 0) 5) (.cons (.cell (.var 0) 6) (.cons (.cell (.var 0) 7) (.cons (.var 2) (.cons (.cell (.var 0) 9) (.cons (.cell (.var 0) 10) (.cons (.cell (.var 0) 11) (.cons (.cell (.var 0) 12) (.cons (.cell (.var 0) 13) (.cons (.cell (.var 0) 14) (.nil)))))))))))))))) (.cons (.bool true) (.nil)))) (.br (.eqs (.str [99, 97, 112]) (.var 1)) (.leaf (.cons (.cons (.cell (.var 0) 0) (.cons (.cell (.var 0) 1) (.cons (.cell (.var 0) 2) (.cons (.cell (.var 0) 3) (.cons (.cell (.var 0) 4) (.cons (.cell (.var 0) 5) (.cons (.cell (.var 0) 6) (.cons (.cell (.var 0) 7) (.cons (.cell (.var 0) 8) (.cons (.var 2) (.cons (.cell (.var 0) 10) (.cons (.cell (.var 0) 11) (.cons (.cell (.var 0) 12) (.cons (.cell (.var 0) 13) (.cons (.cell (.var 0) 14) (.nil)))))))))))))))) (.cons (.bool true) (.nil)))) (.br (.eqs (.str [113, 117, 97, 110, 116, 117, 109]) (.var 1)) (.leaf (.cons (.cons (.cell (.var 0) 0) (.cons (.cell (.var 0) 1) (.cons (.cell (.var 0) 2) (.cons (.cell (.var 0) 3) (.cons (.cell (.var 0) 4) (.cons (.cell (.var 0) 5) (.cons (.cell (.var 0) 6) (.cons (.cell (.var 0) 7) (.cons (.cell (.var 0) 8) (.cons (.cell (.var 0) 9) (.cons (.var 2) (.cons (.cell (.var 0) 11) (.cons (.cell (.var 0) 12) (.cons (.cell (.var 0) 13) (.cons (.cell (.var 0) 14) (.nil)))))))))))))))) (.cons (.bool true) (.nil)))) (.br (.eqs (.str [108, 105, 109, 105, 116]) (.var 1)) (.leaf (.cons (.cons (.cell (.var 0) 0) (.cons (.cell (.var 0) 1) (.cons (.cell (.var 0) 2) (.cons (.cell (.var 0) 3) (.cons (.cell (.var 0) 4) (.cons (.cell (.var 0) 5) (.cons (.cell (.var 0) 6) (.cons (.cell (.var 0) 7) (.cons (.cell (.var 0) 8) (.cons (.cell (.var 0) 9) (.cons (.cell (.var 0) 10) (.cons (.var 2) (.cons (.cell (.var 0) 12) (.cons (.cell (.var 0) 13) (.cons (.cell (.var 0) 14) (.nil)))))))))))))))) (.cons (.bool true) (.nil)))) (.br (.eqs (.str [119, 111, 114, 107, 101, 114, 115]) (.var 1)) (.leaf (.cons (.cons (.cell (.var 0) 0) (.cons (.cell (.var 0) 1) (.cons (.cell (.var 0) 2) (.cons (.cell (.var 0) 3) (.cons (.cell (.var 0) 4) (.cons (.cell (.var 0) 5) (.cons (.cell (.var 0) 6) (.cons (.cell (.var 0) 7) (.cons (.cell (.var 0) 8) (.cons (.cell (.var 0) 9) (.cons (.cell (.var 0) 10) (.cons (.cell (.var 0) 11) (.cons (.var 2) (.cons (.cell (.var 0) 13) (.cons (.cell (.var 0) 14) (.nil)))))))))))))))) (.cons (.bool true) (.nil)))) (.br (.eqs (.str [115, 101, 99, 111, 110, 100]) (.var 1)) (.leaf (.cons (.cons (.cell (.var 0) 0) (.cons (.cell (.var 0) 1) (.cons (.cell (.var 0) 2) (.cons (.cell (.var 0) 3) (.cons (.cell (.var 0) 4) (.cons (.cell (.var 0) 5) (.cons (.cell (.var 0) 6) (.cons (.cell (.var 0) 7) (.cons (.cell (.var 0) 8) (.cons (.cell (.var 0) 9) (.cons (.cell (.var 0) 10) (.cons (.cell (.var 0) 11) (.cons (.cell (.var 0) 12) (.cons (.var 2) (.cons (.cell (.var 0) 14) (.nil)))))))))))))))) (.cons (.bool true) (.nil)))) (.br (.eqs (.str [119, 97, 105, 116]) (.var 1)) (.leaf (.cons (.cons (.cell (.var 0) 0) (.cons (.cell (.var 0) 1) (.cons (.cell (.var 0) 2) (.cons (.cell (.var 0) 3) (.cons (.cell (.var 0) 4) (.cons (.cell (.var 0) 5) (.cons (.cell (.var 0) 6) (.cons (.cell (.var 0) 7) (.cons (.cell (.var 0) 8) (.cons (.cell (.var 0) 9) (.cons (.cell (.var 0) 10) (.cons (.cell (.var 0) 11) (.cons (.cell (.var 0) 12) (.cons (.cell (.var 0) 13) (.cons (.var 2) (.nil)))))))))))))))) (.cons (.bool true) (.nil)))) (.leaf (.cons (.cons (.cell (.var 0) 0) (.cons (.cell (.var 0) 1) (.cons (.cell (.var 0) 2) (.cons (.cell (.var 0) 3) (.cons (.cell (.var 0) 4) (.cons (.cell (.var 0) 5) (.cons (.cell (.var 0) 6) (.cons (.cell (.var 0) 7) (.cons (.cell (.var 0) 8) (.cons (.cell (.var 0) 9) (.cons (.cell (.var 0) 10) (.cons (.cell (.var 0) 11) (.cons (.cell (.var 0) 12) (.cons (.cell (.var 0) 13) (.cons (.cell (.var 0) 14) (.nil)))))))))))))))) (.cons (.bool false) (.nil))))))))))))))))))
def keysT : Tre := .leaf (.snoc (.snoc (.snoc (.snoc (.snoc (.snoc (.snoc (.snoc (.snoc (.snoc (.snoc (.snoc (.snoc (.snoc (.snoc (.lnil) (.str [99, 111, 110, 110, 115])) (.str [115, 116, 114, 101, 97, 109, 115])) (.str [108, 101, 97, 115, 116])) (.str [108, 111, 119])) (.str [104, 105, 103, 104])) (.str [113, 117, 105, 101, 116])) (.str [98, 117, 114, 115, 116])) (.str [114, 97, 116, 101])) (.str [112, 101, 114])) (.str [99, 97, 112])) (.str [113, 117, 97, 110, 116, 117, 109])) (.str [108, 105, 109, 105, 116])) (.str [119, 111, 114, 107, 101, 114, 115])) (.str [115, 101, 99, 111, 110, 100])) (.str [119, 97, 105, 116]))
noncomputable def fsCGet : Fs := ⟨7, [.agg i15, .sh .str], [.sh (.int .i64), .sh .bool], 16, none⟩
noncomputable def fsCSet : Fs := ⟨8, [.agg i15, .sh .str, .sh (.int .i64)], [.agg i15, .sh .bool], 17, none⟩
noncomputable def fsRSet : Fs := ⟨22, [.agg i15, .sh .str, .sh (.int .i64)], [.agg i15, .sh .bool], 17, none⟩
noncomputable def fsCKeys : Fs := ⟨11, [], [.sh (.lst [.str])], 9, none⟩
noncomputable def fsRKeys : Fs := ⟨33, [], [.sh (.lst [.str])], 9, none⟩
noncomputable def fsParse : Fs := ⟨5, [.sh .str], [.agg i15, .sh (.int .i64), .sh (.int .i64)], 8, some 38⟩
noncomputable def fsCDiff : Fs := ⟨9, [.agg i15, .agg i15], [.sh (.lst [.str])], 5, none⟩
theorem cget_chk : chkA Tryz.prog [] 400 7 (mkA fsCGet.ats 0) fsCGet.rs getT [] = true := by kernel_rfl
theorem cset_chk : chkA Tryz.prog [] 400 8 (mkA fsCSet.ats 0) fsCSet.rs setT [] = true := by kernel_rfl
theorem rset_chk : chkA Tryz.prog [] 400 22 (mkA fsRSet.ats 0) fsRSet.rs setT [] = true := by kernel_rfl
theorem ckeys_chk : chkA Tryz.prog [] 400 11 (mkA fsCKeys.ats 0) fsCKeys.rs keysT [] = true := by kernel_rfl
theorem rkeys_chk : chkA Tryz.prog [] 400 33 (mkA fsRKeys.ats 0) fsRKeys.rs keysT [] = true := by kernel_rfl
def Tre.totE : Tre → Bool
  | .leaf _ => true
  | .br (.cmpi _ _ _) t f => t.totE && f.totE
  | .br (.eqs _ _) t f => t.totE && f.totE
  | _ => false
theorem totE_ev [Sy] : ∀ {T : Tre}, T.totE = true → ∃ p, T.ev = some p
  | .leaf e, _ => ⟨_, rfl⟩
  | .br (.cmpi o a b) t f, h => by
    have h : (t.totE && f.totE) = true := h
    rw [Bool.and_eq_true] at h
    obtain ⟨p, hp⟩ := totE_ev (T := t) h.1
    obtain ⟨q, hq⟩ := totE_ev (T := f) h.2
    have e : (Xp.cmpi o a b).den = .bool (cmpZ o a.den.i b.den.i) := rfl
    cases hc : cmpZ o a.den.i b.den.i with
    | true => exact ⟨p, by unfold Tre.ev; rw [e, hc]; exact hp⟩
    | false => exact ⟨q, by unfold Tre.ev; rw [e, hc]; exact hq⟩
  | .br (.eqs a b) t f, h => by
    have h : (t.totE && f.totE) = true := h
    rw [Bool.and_eq_true] at h
    obtain ⟨p, hp⟩ := totE_ev (T := t) h.1
    obtain ⟨q, hq⟩ := totE_ev (T := f) h.2
    have e : (Xp.eqs a b).den = .bool (decide (a.den.s = b.den.s)) := rfl
    cases hc : decide (a.den.s = b.den.s) with
    | true => exact ⟨p, by unfold Tre.ev; rw [e, hc]; exact hp⟩
    | false => exact ⟨q, by unfold Tre.ev; rw [e, hc]; exact hq⟩
theorem evE_some [S : Sy] {T : Tre} (h : T.totE = true) (ps : List PV) : @Tre.ev (S.at (envL ps)) T = some (evP T ps) := by
  obtain ⟨p, hp⟩ := @totE_ev (S.at (envL ps)) T h
  unfold evP
  rw [hp]
  rfl
/-- All the functions' numbers. -/
structure LawS (S : Sy) : Prop extends PaS S, PrS S where
  get : ∀ ps, S.fn 16 ps = evP getT ps
  set : ∀ ps, S.fn 17 ps = evP setT ps
  keys : ∀ ps, S.fn 9 ps = evP keysT ps
  diff : ∀ a b, S.fn 5 [a, b] = .lst (dfTo a b 15)
  same : ∀ a b, S.fn 6 [a, b] = .bool (samePV a.l b.l)
  samepre : ∀ a b, S.fn 93 [a, b] = .bool (decide (a.l.length ≤ 100000))
  parse : ∀ a, S.fn 8 [a] = parseF a.s
  parsepre : ∀ a, S.fn 38 [a] = .bool (decide (a.s.size ≤ 60000))
section
variable [S : Sy]
theorem cget_ok (hS : LawS S) : FnOK Tryz.prog fsCGet :=
  tree_ok (l := []) (T := getT) (fun w vs => MuLone.run_callFunc_enter Tryz.func7 (prog_N _ _ _ Tryz.func7 rfl) rfl vs w) prog_N prog_mixed (fun _ h => (List.not_mem_nil h).elim) (fun _ h => (List.not_mem_nil h).elim) cget_chk fun ps _ _ => by rw [hS.get]; exact evE_some (by kernel_rfl) ps
theorem cset_ok (hS : LawS S) : FnOK Tryz.prog fsCSet :=
  tree_ok (l := []) (T := setT) (fun w vs => MuLone.run_callFunc_enter Tryz.func8 (prog_N _ _ _ Tryz.func8 rfl) rfl vs w) prog_N prog_mixed (fun _ h => (List.not_mem_nil h).elim) (fun _ h => (List.not_mem_nil h).elim) cset_chk fun ps _ _ => by rw [hS.set]; exact evE_some (by kernel_rfl) ps
theorem rset_ok (hS : LawS S) : FnOK Tryz.prog fsRSet :=
  tree_ok (l := []) (T := setT) (fun w vs => MuLone.run_callFunc_enter Tryz.func22 (prog_N _ _ _ Tryz.func22 rfl) rfl vs w) prog_N prog_mixed (fun _ h => (List.not_mem_nil h).elim) (fun _ h => (List.not_mem_nil h).elim) rset_chk fun ps _ _ => by rw [hS.set]; exact evE_some (by kernel_rfl) ps
theorem ckeys_ok (hS : LawS S) : FnOK Tryz.prog fsCKeys :=
  tree_ok (l := []) (T := keysT) (fun w vs => MuLone.run_callFunc_enter Tryz.func11 (prog_N _ _ _ Tryz.func11 rfl) rfl vs w) prog_N prog_mixed (fun _ h => (List.not_mem_nil h).elim) (fun _ h => (List.not_mem_nil h).elim) ckeys_chk fun ps _ _ => by rw [hS.keys]; exact evE_some (by kernel_rfl) ps
theorem rkeys_ok (hS : LawS S) : FnOK Tryz.prog fsRKeys :=
  tree_ok (l := []) (T := keysT) (fun w vs => MuLone.run_callFunc_enter Tryz.func33 (prog_N _ _ _ Tryz.func33 rfl) rfl vs w) prog_N prog_mixed (fun _ h => (List.not_mem_nil h).elim) (fun _ h => (List.not_mem_nil h).elim) rkeys_chk fun ps _ _ => by rw [hS.keys]; exact evE_some (by kernel_rfl) ps
theorem cfgV_ok (F : Fz) (c : PV) : (Tm.agg i15).rp F c (.agg (cfgV c)) := ⟨_, rfl, _, _, rfl, by simp only [Sh.rp], _, _, rfl, by simp only [Sh.rp], _, _, rfl, by simp only [Sh.rp], _, _, rfl, by simp only [Sh.rp], _, _, rfl, by simp only [Sh.rp], _, _, rfl, by simp only [Sh.rp], _, _, rfl, by simp only [Sh.rp], _, _, rfl, by simp only [Sh.rp], _, _, rfl, by simp only [Sh.rp], _, _, rfl, by simp only [Sh.rp], _, _, rfl, by simp only [Sh.rp], _, _, rfl, by simp only [Sh.rp], _, _, rfl, by simp only [Sh.rp], _, _, rfl, by simp only [Sh.rp], _, _, rfl, by simp only [Sh.rp], rfl⟩
theorem parse_ok (hS : LawS S) : FnOK Tryz.prog fsParse := by
  refine ⟨fun w vs => MuLone.run_callFunc_enter Tryz.func5 (prog_N _ _ _ Tryz.func5 rfl) rfl vs w, fun F W ps vs hF hi ha hp => ?_⟩
  obtain ⟨a, x, rfl, rfl, h1⟩ := args1 ha
  obtain rfl := str_rp h1
  have h := hp 38 rfl
  rw [hS.parsepre] at h
  injection h with h
  have key : ∀ F', resOK F' [.agg i15, .sh (.int .i64), .sh (.int .i64)] (S.fn 8 [a]) (.tuple #[.agg (cfgV ((parseF a.s).cl 0)), .int .i64 ((parseF a.s).cl 1).i, .int .i64 ((parseF a.s).cl 2).i]) := fun F' => by
    rw [hS.parse]
    exact ⟨_, rfl, _, _, rfl, cfgV_ok F' _, _, _, rfl, by simp only [Tm.rp, Sh.rp], _, _, rfl, by simp only [Tm.rp, Sh.rp], rfl⟩
  refine (parse_any hS.toPaS a.s (of_decide_eq_true h) W hi).mono ?_
  rintro e w' ⟨rfl, hb⟩
  exact ⟨_, rfl, key (growF F W w'), hb⟩
end
end Go.Proofs.YtdflkikhmngfiaaGreatDoor

