/- The document's numbers with a prefix: footmanref01.Put. -/
import Derived.Test.YtmnaljnkgaebkaaDocA
import Derived.Test.YtmnaljnkgaebkaaPreQ
namespace Go.Proofs.Ytmnaljnkgaebkaa
open Go.RowKit
set_option linter.unusedVariables false
set_option linter.unusedSimpArgs false

set_option maxRecDepth 100000 in
set_option maxHeartbeats 2000000 in
theorem refPut_any (f k n : Nat) (hf : f < 256) (hk : K4 k) (hn : n ≤ 268435455) (w : World) : Calls Try.prog 78 #[.int .u8 (f : Int), .int .i64 (k : Int), .int .i64 (n : Int)] w (PutPost f k n w) := by
  obtain ⟨i0, hi0, hz0, hz1, hz2⟩ := info_parts u8_info
  have HI := Lib.hid hi0
  have HZ0 := Lib.hid hz0
  have HZ1 := Lib.hid hz1
  have HZ2 := Lib.hid hz2
  clear hi0 hz0 hz1 hz2
  have HPO := Lib.hid (fun W => refPow_any k (by rcases hk with rfl | rfl | rfl | rfl <;> decide) W)
  have HRE := Lib.hid (fun W => refRest_any f k hf hk W)
  have HOR := Lib.hid (fun x hx => (or_rest f k x hf hk hx).2)
  have hm127 : 2 ^ k - 1 ≤ 127 := by rcases hk with rfl | rfl | rfl | rfl <;> decide
  have hP : 2 ^ k = (2 ^ k - 1) + 1 := by have := Nat.two_pow_pos k; omega
  have HPU := Lib.hid (show putN f k n = if n < 2 ^ k - 1 then [restN f k + n] else (restN f k + (2 ^ k - 1)) :: groupsN (n - (2 ^ k - 1)) from rfl)
  have hrl := rest_lt f k hf
  have hk1 : decide ((k : Int) < 1) = false := decide_eq_false (by rcases hk with rfl | rfl | rfl | rfl <;> decide)
  have hk2 : decide ((8 : Int) < (k : Int)) = false := decide_eq_false (by rcases hk with rfl | rfl | rfl | rfl <;> decide)
  rw [hP] at HPO
  generalize 2 ^ k - 1 = M at HPO HOR HPU hm127
  generalize restN f k = R at HRE HOR HPU hrl
  clear hf hk hP
  have hn1 : decide ((n : Int) < 0) = false := decide_eq_false (by omega)
  have hn2 : decide ((268435455 : Int) < (n : Int)) = false := decide_eq_false (by omega)
  have hM1 : IntKind.i64.wrap ((M + 1 : Nat) : Int) = ((M + 1 : Nat) : Int) := IntWalk.i64_in _ (by omega)
  have hM2 : IntKind.i64.wrap (((M + 1 : Nat) : Int) - 1) = (M : Int) := by rw [show ((M + 1 : Nat) : Int) - 1 = (M : Int) from by omega]; exact IntWalk.i64_in _ (by omega)
  go_enter Try.func78, Try.ntmps78
  go_wp2_with fail
  refine (HPO.out _).mono ?_
  rintro e w2 ⟨rfl, hw⟩
  subst hw
  by_cases hlt : n < M
  · have hw8 : IntKind.u8.wrap (n : Int) = (n : Int) := IntWalk.u8_in _ (by omega)
    have hol := HOR.out n (by omega)
    have hw9 : IntKind.u8.wrap ((R : Int) + (n : Int)) = ((R + n : Nat) : Int) := IntWalk.u8_in _ (by omega)
    have hb : decide ((n : Int) < (M : Int)) = true := decide_eq_true (by omega)
    have HE := Lib.hid (HPU.out.trans (if_pos hlt))
    have HB := Lib.hid ((Below.refl w2.heap.size w2).alloc (Nat.le_refl _) (.cells #[.int .u8 ((R + n : Nat) : Int)] 5))
    have HO := Lib.hid (World.ownsRow_lit (e := 5) (size := 1) w2 #[.int .u8 ((R + n : Nat) : Int)] 1 (Nat.le_refl _) (by decide) rfl)
    go_wp2_with fail
    refine (HRE.out _).mono ?_
    rintro e w3 ⟨rfl, hw⟩
    subst hw
    go_wp2_with fail
    refine bodyPost_ret (v := .tuple #[.slice (some ⟨w3.heap.size, 0, none⟩) 1 1, .int .i64 0]) (by simp [results, Try.results78, go_sem]) rfl ⟨_, rfl, ?_, HB.out⟩
    rw [HE.out]
    exact HO.out
  · have hw8 : IntKind.u8.wrap (M : Int) = (M : Int) := IntWalk.u8_in _ (by omega)
    have hol := HOR.out M (Nat.le_refl _)
    have hw9 : IntKind.u8.wrap ((R : Int) + (M : Int)) = ((R + M : Nat) : Int) := IntWalk.u8_in _ (by omega)
    have hb : decide ((n : Int) < (M : Int)) = false := decide_eq_false (by omega)
    have HE := Lib.hid (HPU.out.trans (if_neg hlt))
    obtain ⟨q, hq⟩ : ∃ q : Nat, q = n - M := ⟨n - M, rfl⟩
    have hql : q ≤ 268435455 := by omega
    have hsub : IntKind.i64.wrap ((n : Int) - (M : Int)) = (q : Int) := by rw [show (n : Int) - (M : Int) = (q : Int) from by omega]; exact IntWalk.i64_in _ (by omega)
    rw [← hq] at HE
    clear hq
    go_wp2_with fail
    refine (HRE.out _).mono ?_
    rintro e w3 ⟨rfl, hw⟩
    subst hw
    have HB := Lib.hid ((Below.refl w3.heap.size w3).alloc (Nat.le_refl _) (.cells #[.int .u8 ((R + M : Nat) : Int)] 5))
    have HO := Lib.hid (show OwnB (w3.alloc (.cells #[.int .u8 ((R + M : Nat) : Int)] 5)) w3.heap.size (.slice (some ⟨w3.heap.size, 0, none⟩) 1 1) [R + M] from World.ownsRow_lit (e := 5) (size := 1) w3 #[.int .u8 ((R + M : Nat) : Int)] 1 (Nat.le_refl _) (by decide) rfl)
    go_wp2_with fail
    go_loopw [2, 9] (fun lf out wr => ∃ (vv : Value) (m : Nat) (pre : List Nat), out = vv ∧ lf = .int .i64 m ∧ m ≤ 268435455 ∧ pre.length ≤ 1000000000 - m ∧ pre ++ groupsN m = (R + M) :: groupsN q ∧ OwnB wr w3.heap.size vv pre ∧ Below w3.heap.size w3 wr) (fun lf _ _ => (intOf lf).toNat)
    case atStart => exact ⟨_, q, [R + M], rfl, rfl, hql, by simp; omega, rfl, HO.out, HB.out⟩
    case round =>
      obtain ⟨v, m, pre, hv, rfl, hm, hpl, hg, hown, bk⟩ := hrel
      obtain rfl := hv.symm
      have HG := Lib.hid hg
      have HO2 := Lib.hid hown
      have BK := Lib.hid bk
      clear hg hown bk hv
      by_cases hlo : m < 128
      · have hc : decide ((128 : Int) ≤ (m : Int)) = false := decide_eq_false (by omega)
        have hwm : IntKind.u8.wrap (m : Int) = (m : Int) := IntWalk.u8_in _ (by omega)
        have HGL := Lib.hid (groupsN_lo m hlo)
        have hc1 : ∀ u ∈ [Value.int .u8 (m : Int)], u.oneCell' = true := by intro u hu; simp at hu; subst hu; rfl
        have hc2 : pre.length + 1 ≤ maxLen := by unfold maxLen; omega
        have hc3 : (pre.length + 1) * 1 ≤ 140737488355328 := by omega
        have HC4 := Lib.hid (BK.out.alloc BK.out.size (.cells #[.int .u8 (m : Int)] 5)).size
        go_wp2_with (at_builtin; refine wpList_append_own_at _ rfl _ _ 28 rfl w3.heap.size 5 i0 _ 1 1 Try.underlying28 HI.out HZ0.out HZ1.out HZ2.out rfl (by omega) v _ _ rfl (HO2.out.alloc _) ⟨wr.heap.size, 0, none⟩ 1 1 [Value.int .u8 (m : Int)] rfl rfl (cells_new wr [Value.int .u8 (m : Int)] _) hc1 hc2 hc3 HC4.out ?_; intro v3 w4 hown3 hg3 _ _; clear hc1 hc2 hc3)
        have B3 := Lib.hid ((BK.out.alloc BK.out.size _).grown hg3 HC4.out (fun q hq => (HO2.out.lt q hq).1))
        have HO3 := Lib.hid (ownB_snoc hown3)
        clear hg3 hown3
        go_wp2_with fail
        refine bodyPost_ret (v := .tuple #[v3, .int .i64 0]) (by simp [results, Try.results78, go_sem]) rfl ⟨_, rfl, ?_, B3.out⟩
        rw [HE.out, ← HG.out, HGL.out]
        exact HO3.out
      · have hc : decide ((128 : Int) ≤ (m : Int)) = true := decide_eq_true (by omega)
        have HGH := Lib.hid (groupsN_hi m hlo)
        have hx1 : (m : Int) % 128 = ((m % 128 : Nat) : Int) := rfl
        have hsh : (m : Int) / 128 = ((m / 128 : Nat) : Int) := rfl
        have hyl : m % 128 < 128 := Nat.mod_lt _ (by decide)
        have hzl : m / 128 < m := by omega
        have HZM := Lib.hid (show m / 128 ≤ 268435455 from by omega)
        generalize hx : m % 128 + 128 = x at HGH
        generalize hy : m % 128 = y at hx1 hx hyl
        generalize hz : m / 128 = z at hsh HGH hzl HZM
        have hx2 : IntKind.i64.wrap (128 + (y : Int)) = (x : Int) := by rw [show (128 : Int) + (y : Int) = (x : Int) from by omega]; exact IntWalk.i64_in _ (by omega)
        have hx3 : IntKind.u8.wrap (x : Int) = (x : Int) := IntWalk.u8_in _ (by omega)
        have hx4 : IntKind.i64.wrap (z : Int) = (z : Int) := IntWalk.i64_in _ (by omega)
        have hx5 : IntKind.i64.wrap (y : Int) = (y : Int) := IntWalk.i64_in _ (by omega)
        clear hx hy hz
        have hc1 : ∀ u ∈ [Value.int .u8 (x : Int)], u.oneCell' = true := by intro u hu; simp at hu; subst hu; rfl
        have hc2 : pre.length + 1 ≤ maxLen := by unfold maxLen; omega
        have hc3 : (pre.length + 1) * 1 ≤ 140737488355328 := by omega
        have HC4 := Lib.hid (BK.out.alloc BK.out.size (.cells #[.int .u8 (x : Int)] 5)).size
        go_wp2_with (at_builtin; refine wpList_append_own_at _ rfl _ _ 28 rfl w3.heap.size 5 i0 _ 1 1 Try.underlying28 HI.out HZ0.out HZ1.out HZ2.out rfl (by omega) v _ _ rfl (HO2.out.alloc _) ⟨wr.heap.size, 0, none⟩ 1 1 [Value.int .u8 (x : Int)] rfl rfl (cells_new wr [Value.int .u8 (x : Int)] _) hc1 hc2 hc3 HC4.out ?_; intro v3 w4 hown3 hg3 _ _; clear hc1 hc2 hc3)
        have B3 := Lib.hid ((BK.out.alloc BK.out.size _).grown hg3 HC4.out (fun q hq => (HO2.out.lt q hq).1))
        have HO3 := Lib.hid (ownB_snoc hown3)
        have HG3 := Lib.hid (show (pre ++ [x]) ++ groupsN z = (R + M) :: groupsN q from by rw [List.append_assoc, ← HG.out, HGH.out]; rfl)
        clear hg3 hown3
        go_wp2_with fail
        go_roundw
        case rel => exact ⟨v3, z, pre ++ [x], rfl, by go_num, HZM.out, by rw [List.length_append]; simp; omega, HG3.out, HO3.out, B3.out⟩
        case measure => simp [intOf]; omega
#print axioms refPut_any
end Go.Proofs.Ytmnaljnkgaebkaa
