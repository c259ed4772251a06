/- DecB · PreP · PreQ: joined by a program, for a claim has at most 60 files. -/
import Derived.Test.YteceinojmdgmeaaC08
import Derived.Test.YteceinojmdgmeaaC04
import Derived.Test.YteceinojmdgmeaaC02
/- The law's own look: what every right program encodes and decodes. -/
namespace Go.Proofs.Yteceinojmdgmeaa
open Go.RowKit
set_option linter.unusedVariables false
set_option linter.unusedSimpArgs false

theorem ownB_bytes {w : World} {B : Nat} {v : Value} {l : List Nat} (h : OwnB w B v l) : ∃ oa cap, v = .slice oa l.length cap ∧ BytesN w oa l ∧ ∀ a, oa = some a → B ≤ a.block ∧ a.block < w.heap.size := by
  rcases h.2 with ⟨rfl, h0⟩ | ⟨g, cap, cur, rfl, hb, hg, hn, hm, hs, ht⟩
  · exact ⟨none, 0, by rw [h0], fun i hi => by omega, fun a ha => by cases ha⟩
  · refine ⟨some ⟨g, 0, none⟩, cap, rfl, fun i hi => ⟨_, rfl, ?_⟩, fun a ha => ?_⟩
    · exact World.ownsRow.cells h rfl i _ (by simp [List.getElem?_eq_getElem hi])
    · obtain rfl := Option.some.inj ha
      exact ⟨hb, (Array.getElem?_eq_some_iff.1 hg).1⟩
theorem OwnB.step {w w' : World} {B : Nat} {v : Value} {l : List Nat} (h : OwnB w B v l) (hk : ∀ k, B ≤ k → k < w.heap.size → w'.heap[k]? = w.heap[k]?) : OwnB w' B v l := by
  refine ⟨h.1, h.2.imp id ?_⟩
  rintro ⟨g, cap, cur, h1, h2, h3, h4⟩
  exact ⟨g, cap, cur, h1, h2, (hk g h2 (Array.getElem?_eq_some_iff.1 h3).1).trans h3, h4⟩
theorem decode_text (p : Nat) (w : World) (hr : Ready p w) (oa : Option Addr) (cap : Nat) (bs : List Nat) (l : List UInt8) (h : decL bs = some l) (hb : BytesN w oa bs) (hp : ∀ a, oa = some a → a.block ≠ p) (hlen : bs.length ≤ 1000000) (hbyte : ∀ i, i < bs.length → bs.getD i 0 < 256) :
    Calls Try.prog 94 #[.pointer (some ⟨p, 0, none⟩), .slice oa bs.length cap] w fun e w' => e = .returned (.tuple #[.string ⟨l.toArray⟩, .int .i64 0]) ∧ Done p w' 1 ∧ Near p w.heap.size w w' := by
  refine (decode_any p w hr oa cap bs hb hp hlen hbyte).mono ?_
  rintro e w' ⟨rfl, h1, h2⟩
  exact ⟨by rw [h]; rfl, h1, h2⟩
theorem decode_fail (p : Nat) (w : World) (hr : Ready p w) (oa : Option Addr) (cap : Nat) (bs : List Nat) (h : decL bs = none) (hb : BytesN w oa bs) (hp : ∀ a, oa = some a → a.block ≠ p) (hlen : bs.length ≤ 1000000) (hbyte : ∀ i, i < bs.length → bs.getD i 0 < 256) :
    Calls Try.prog 94 #[.pointer (some ⟨p, 0, none⟩), .slice oa bs.length cap] w fun e w' => e = .returned (.tuple #[.string ByteArray.empty, .int .i64 4]) ∧ Done p w' 1 ∧ Near p w.heap.size w w' := by
  refine (decode_any p w hr oa cap bs hb hp hlen hbyte).mono ?_
  rintro e w' ⟨rfl, h1, h2⟩
  exact ⟨by rw [h]; rfl, h1, h2⟩

theorem bytes_new (w : World) (t : TypeId) (bs : List Nat) : BytesN (w.alloc (.cells (bs.map fun n : Nat => Value.int .u8 (n : Int)).toArray t)) (some ⟨w.heap.size, 0, none⟩) bs := by
  intro i hi
  exact ⟨_, rfl, cells_new w _ t i _ (by simp [List.getElem?_eq_getElem hi])⟩
def wwwL : List UInt8 := [119, 119, 119, 46, 101, 120, 97, 109, 112, 108, 101, 46, 99, 111, 109]
def wwwE : List UInt8 := [241, 227, 194, 229, 242, 58, 107, 160, 171, 144, 244, 255]
set_option maxRecDepth 100000 in
theorem www_enc : encL wwwL = wwwE.map UInt8.toNat := by decide +kernel
set_option maxRecDepth 100000 in
theorem www_dec : decL (wwwE.map UInt8.toNat) = some wwwL := by decide +kernel
set_option maxRecDepth 100000 in
theorem www_ff : decL [255] = none := by decide +kernel
set_option maxRecDepth 100000 in
theorem www_fc : decL [255, 255, 255, 252] = none := by decide +kernel
set_option maxRecDepth 100000 in
theorem www_size : sizeL wwwL = 12 := by decide +kernel
theorem www_code : codeOf 48 = 0 ∧ lenOf 48 = 5 := by decide +kernel

end Go.Proofs.Yteceinojmdgmeaa


/- Numbers with a prefix (prefint): plain, and the small functions. -/
namespace Go.Proofs.Yteceinojmdgmeaa
open Go.RowKit
set_option linter.unusedVariables false
set_option linter.unusedSimpArgs false

/-- The bits of a first byte that are not the number's. -/
def restN (f k : Nat) : Nat := f / 2 ^ k * 2 ^ k
/-- The groups of seven bits, the least first. -/
def groupsN (m : Nat) : List Nat := if h : m < 128 then [m] else (m % 128 + 128) :: groupsN (m / 128)
termination_by m
decreasing_by omega
/-- A number behind a first byte's bits. -/
def putN (f k n : Nat) : List Nat := if n < 2 ^ k - 1 then [restN f k + n] else (restN f k + (2 ^ k - 1)) :: groupsN (n - (2 ^ k - 1))
theorem groupsN_lo (m : Nat) (h : m < 128) : groupsN m = [m] := by rw [groupsN, dif_pos h]
theorem groupsN_hi (m : Nat) (h : ¬ m < 128) : groupsN m = (m % 128 + 128) :: groupsN (m / 128) := by rw [groupsN, dif_neg h]
theorem groupsN_len : ∀ m : Nat, (groupsN m).length ≤ m / 128 + 1 := by
  intro m
  induction m using Nat.strongRecOn with
  | _ m ih =>
    by_cases h : m < 128
    · rw [groupsN_lo m h]; simp
    · rw [groupsN_hi m h]
      have := ih (m / 128) (by omega)
      simp only [List.length_cons]
      omega
theorem groupsN_byte : ∀ m : Nat, ∀ x ∈ groupsN m, x < 256 := by
  intro m
  induction m using Nat.strongRecOn with
  | _ m ih =>
    intro x hx
    by_cases h : m < 128
    · rw [groupsN_lo m h] at hx; simp at hx; omega
    · rw [groupsN_hi m h] at hx
      rcases List.mem_cons.1 hx with rfl | hx
      · omega
      · exact ih _ (by omega) x hx
def K4 (k : Nat) : Prop := k = 4 ∨ k = 5 ∨ k = 6 ∨ k = 7
theorem or128 : ∀ x : Nat, x < 256 → x ||| 128 = x % 128 + 128 := by decide +kernel
theorem andNot_rest (f k : Nat) (hf : f < 256) (hk : K4 k) : bits BinOp.andNot IntKind.u8 (f : Int) ((2 ^ k - 1 : Nat) : Int) = ((restN f k : Nat) : Int) := by
  have h : ∀ k : Fin 4, ∀ f, f < 256 → f &&& (255 - (2 ^ (k.val + 4) - 1)) = restN f (k.val + 4) := by decide +kernel
  rw [u8_andNot_nat _ _ hf (by rcases hk with rfl | rfl | rfl | rfl <;> decide)]
  rcases hk with rfl | rfl | rfl | rfl
  · exact congrArg (fun n : Nat => (n : Int)) (h 0 f hf)
  · exact congrArg (fun n : Nat => (n : Int)) (h 1 f hf)
  · exact congrArg (fun n : Nat => (n : Int)) (h 2 f hf)
  · exact congrArg (fun n : Nat => (n : Int)) (h 3 f hf)
theorem rest_lt (f k : Nat) (hf : f < 256) : restN f k < 256 := Nat.lt_of_le_of_lt (Nat.div_mul_le_self f (2 ^ k)) hf
theorem or_rest (f k x : Nat) (hf : f < 256) (hk : K4 k) (hx : x ≤ 2 ^ k - 1) : bits BinOp.or IntKind.u8 ((restN f k : Nat) : Int) (x : Int) = ((restN f k + x : Nat) : Int) ∧ restN f k + x < 256 := by
  have hp : 2 ^ k ≤ 128 ∧ 0 < 2 ^ k := by rcases hk with rfl | rfl | rfl | rfl <;> decide
  have hlt := rest_lt f k hf
  constructor
  · rw [u8_or_nat _ _ hlt (by omega)]
    unfold restN
    rw [Nat.mul_comm, Nat.two_pow_add_eq_or_of_lt (by omega)]
  · have h1 := Nat.div_add_mod f (2 ^ k)
    have h2 : ∃ q, restN f k = 2 ^ k * q ∧ q = f / 2 ^ k := ⟨_, by unfold restN; rw [Nat.mul_comm], rfl⟩
    rcases hk with rfl | rfl | rfl | rfl <;> simp only [restN] at * <;> omega
theorem ones_any (k : Nat) (hk : K4 k) (w : World) : Calls Try.prog 74 #[.int .i64 (k : Int)] w fun e w' => e = .returned (.int .i64 ((2 ^ k - 1 : Nat) : Int)) ∧ w' = w := by
  rcases hk with rfl | rfl | rfl | rfl
  all_goals
    go_enter Try.func74, Try.ntmps74
    go_wp2_with fail
    go_ret
    exact ⟨rfl, rfl⟩
theorem wide_any (k : Nat) (hk : K4 k) (w : World) : Calls Try.prog 73 #[.int .i64 (k : Int)] w fun e w' => e = .returned (.bool true) ∧ w' = w := by
  rcases hk with rfl | rfl | rfl | rfl
  all_goals
    go_enter Try.func73, Try.ntmps73
    go_wp2_with fail
    go_ret
    exact ⟨rfl, rfl⟩
theorem rest_any (f k : Nat) (hf : f < 256) (hk : K4 k) (w : World) : Calls Try.prog 75 #[.int .u8 (f : Int), .int .i64 (k : Int)] w fun e w' => e = .returned (.int .u8 ((restN f k : Nat) : Int)) ∧ w' = w := by
  have HA := Lib.hid (andNot_rest f k hf hk)
  have HO := Lib.hid (fun W => ones_any k hk W)
  have hw : IntKind.u8.wrap ((2 ^ k - 1 : Nat) : Int) = ((2 ^ k - 1 : Nat) : Int) := by rcases hk with rfl | rfl | rfl | rfl <;> rfl
  generalize hm : (2 ^ k - 1 : Nat) = m at HA HO hw
  clear hm
  have hk1 : (k : Int) ≤ 8 := by rcases hk with rfl | rfl | rfl | rfl <;> decide
  have hk2 : (1 : Int) ≤ (k : Int) := by rcases hk with rfl | rfl | rfl | rfl <;> decide
  have hk3 : min (k : Int) 8 = k := Int.min_eq_left hk1
  have hk4 : max 1 (k : Int) = k := Int.max_eq_right hk2
  clear hf hk
  have ha := HA.out
  go_enter Try.func75, Try.ntmps75
  go_wp2_with fail
  refine (HO.out _).mono ?_
  rintro e w1 ⟨rfl, hw'⟩
  subst hw'
  go_wp2_with fail
  go_ret
  exact ⟨rfl, rfl⟩
end Go.Proofs.Yteceinojmdgmeaa


/- prefint.Put. -/
namespace Go.Proofs.Yteceinojmdgmeaa
open Go.RowKit
set_option linter.unusedVariables false
set_option linter.unusedSimpArgs false

def PutPost (f k n : Nat) (w : World) (e : Ending) (w' : World) : Prop := ∃ v, e = .returned (.tuple #[v, .int .i64 0]) ∧ OwnB w' w.heap.size v (putN f k n) ∧ Below w.heap.size w w'
set_option maxRecDepth 100000 in
set_option maxHeartbeats 2000000 in
theorem put_any (f k n : Nat) (hf : f < 256) (hk : K4 k) (hn : n ≤ 268435455) (w : World) : Calls Try.prog 50 #[.int .u8 (f : Int), .int .i64 (k : Int), .int .i64 (n : Int)] w (PutPost f k n w) := by
  obtain ⟨i0, hi0, hz0, hz1, hz2⟩ := info_parts u8_info
  have HI := Lib.hid hi0
  have HZ0 := Lib.hid hz0
  have HZ1 := Lib.hid hz1
  have HZ2 := Lib.hid hz2
  clear hi0 hz0 hz1 hz2
  have HWI := Lib.hid (fun W => wide_any k hk W)
  have HON := Lib.hid (fun W => ones_any k hk W)
  have HRE := Lib.hid (fun W => rest_any f k hf hk W)
  have HOR := Lib.hid (fun x hx => or_rest f k x hf hk hx)
  have hm127 : 2 ^ k - 1 ≤ 127 := by rcases hk with rfl | rfl | rfl | rfl <;> decide
  have HPU := Lib.hid (show putN f k n = if n < 2 ^ k - 1 then [restN f k + n] else (restN f k + (2 ^ k - 1)) :: groupsN (n - (2 ^ k - 1)) from rfl)
  have hrl := rest_lt f k hf
  generalize 2 ^ k - 1 = M at HON HOR HPU hm127
  generalize restN f k = R at HRE HOR HPU hrl
  clear hf hk
  have hn1 : decide ((n : Int) < 0) = false := decide_eq_false (by omega)
  have hn2 : decide ((268435455 : Int) < (n : Int)) = false := decide_eq_false (by omega)
  go_enter Try.func50, Try.ntmps50
  go_wp2_with fail
  refine (HWI.out _).mono ?_
  rintro e w1 ⟨rfl, hw⟩
  subst hw
  go_wp2_with fail
  refine (HON.out _).mono ?_
  rintro e w2 ⟨rfl, hw⟩
  subst hw
  go_wp2_with fail
  refine (HRE.out _).mono ?_
  rintro e w3 ⟨rfl, hw⟩
  subst hw
  by_cases hlt : n < M
  · have hmin : min (n : Int) (M : Int) = (n : Int) := Int.min_eq_left (by omega)
    have hw8 : IntKind.u8.wrap (n : Int) = (n : Int) := IntWalk.u8_in _ (by omega)
    obtain ⟨ho, hol⟩ := HOR.out n (by omega)
    have hb : decide ((n : Int) < (M : Int)) = true := decide_eq_true (by omega)
    have HE := Lib.hid (HPU.out.trans (if_pos hlt))
    have HB := Lib.hid ((Below.refl w3.heap.size w3).alloc (Nat.le_refl _) (.cells #[.int .u8 ((R + n : Nat) : Int)] 5))
    have HO := Lib.hid (World.ownsRow_lit (e := 5) (size := 1) w3 #[.int .u8 ((R + n : Nat) : Int)] 1 (Nat.le_refl _) (by decide) rfl)
    go_wp2_with fail
    refine bodyPost_ret (v := .tuple #[.slice (some ⟨w3.heap.size, 0, none⟩) 1 1, .int .i64 0]) (by simp [results, Try.results50, go_sem]) rfl ⟨_, rfl, ?_, HB.out⟩
    rw [HE.out]
    exact HO.out
  · have hmin : min (n : Int) (M : Int) = (M : Int) := Int.min_eq_right (by omega)
    have hw8 : IntKind.u8.wrap (M : Int) = (M : Int) := IntWalk.u8_in _ (by omega)
    obtain ⟨ho, hol⟩ := HOR.out M (Nat.le_refl _)
    have hb : decide ((n : Int) < (M : Int)) = false := decide_eq_false (by omega)
    have HE := Lib.hid (HPU.out.trans (if_neg hlt))
    obtain ⟨q, hq⟩ : ∃ q : Nat, q = n - M := ⟨n - M, rfl⟩
    have hql : q ≤ 268435455 := by omega
    have hsub : IntKind.i64.wrap ((n : Int) - (M : Int)) = (q : Int) := by rw [show (n : Int) - (M : Int) = (q : Int) from by omega]; exact IntWalk.i64_in _ (by omega)
    have hu32 : IntKind.u32.wrap (q : Int) = (q : Int) := IntWalk.u32_in _ (by omega)
    rw [← hq] at HE
    clear hq
    have HB := Lib.hid ((Below.refl w3.heap.size w3).alloc (Nat.le_refl _) (.cells #[.int .u8 ((R + M : Nat) : Int)] 5))
    have HO := Lib.hid (show OwnB (w3.alloc (.cells #[.int .u8 ((R + M : Nat) : Int)] 5)) w3.heap.size (.slice (some ⟨w3.heap.size, 0, none⟩) 1 1) [R + M] from World.ownsRow_lit (e := 5) (size := 1) w3 #[.int .u8 ((R + M : Nat) : Int)] 1 (Nat.le_refl _) (by decide) rfl)
    go_wp2_with fail
    go_loopw [9, 10] (fun out lf wr => ∃ (vv : Value) (m : Nat) (pre : List Nat), out = vv ∧ lf = .int .u32 m ∧ m ≤ 268435455 ∧ pre.length ≤ 1000000000 - m ∧ pre ++ groupsN m = (R + M) :: groupsN q ∧ OwnB wr w3.heap.size vv pre ∧ Below w3.heap.size w3 wr) (fun _ lf _ => (intOf lf).toNat)
    case atStart => exact ⟨_, q, [R + M], rfl, rfl, hql, by simp; omega, rfl, HO.out, HB.out⟩
    case round =>
      obtain ⟨v, m, pre, hv, rfl, hm, hpl, hg, hown, bk⟩ := hrel
      obtain rfl := hv.symm
      have HG := Lib.hid hg
      have HO2 := Lib.hid hown
      have BK := Lib.hid bk
      clear hg hown bk hv
      by_cases hlo : m < 128
      · have hc : decide ((128 : Int) ≤ (m : Int)) = false := decide_eq_false (by omega)
        have hwm : IntKind.u8.wrap (m : Int) = (m : Int) := IntWalk.u8_in _ (by omega)
        have HGL := Lib.hid (groupsN_lo m hlo)
        have hc1 : ∀ u ∈ [Value.int .u8 (m : Int)], u.oneCell' = true := by intro u hu; simp at hu; subst hu; rfl
        have hc2 : pre.length + 1 ≤ maxLen := by unfold maxLen; omega
        have hc3 : (pre.length + 1) * 1 ≤ 140737488355328 := by omega
        have hc4 := (BK.out.alloc BK.out.size (.cells #[.int .u8 (m : Int)] 5)).size
        have HC4 := Lib.hid hc4
        clear hc4
        go_wp2_with (at_builtin; refine wpList_append_own_at _ rfl _ _ 23 rfl w3.heap.size 5 i0 _ 1 1 Try.underlying23 HI.out HZ0.out HZ1.out HZ2.out rfl (by omega) v _ _ rfl (HO2.out.alloc _) ⟨wr.heap.size, 0, none⟩ 1 1 [Value.int .u8 (m : Int)] rfl rfl (cells_new wr [Value.int .u8 (m : Int)] _) hc1 hc2 hc3 HC4.out ?_; intro v3 w4 hown3 hg3 _ _; clear hc1 hc2 hc3)
        have B3 := Lib.hid ((BK.out.alloc BK.out.size _).grown hg3 HC4.out (fun q hq => (HO2.out.lt q hq).1))
        have HO3 := Lib.hid (ownB_snoc hown3)
        clear hg3 hown3
        go_wp2_with fail
        refine bodyPost_ret (v := .tuple #[v3, .int .i64 0]) (by simp [results, Try.results50, go_sem]) rfl ⟨_, rfl, ?_, B3.out⟩
        rw [HE.out, ← HG.out, HGL.out]
        exact HO3.out
      · have hc : decide ((128 : Int) ≤ (m : Int)) = true := decide_eq_true (by omega)
        have HGH := Lib.hid (groupsN_hi m hlo)
        have hwm : IntKind.u8.wrap (m : Int) = ((m % 256 : Nat) : Int) := by simp [IntKind.wrap, IntKind.signed, IntKind.bits]
        have hor : bits BinOp.or IntKind.u8 ((m % 256 : Nat) : Int) 128 = ((m % 128 + 128 : Nat) : Int) := by
          have h := u8_or_nat (m % 256) 128 (by omega) (by omega)
          rw [or128 _ (by omega), show m % 256 % 128 = m % 128 from by omega] at h
          exact h
        have hsh : (m : Int) / 2 ^ 7 = ((m / 128 : Nat) : Int) := by simp
        generalize hx : m % 128 + 128 = x at hor HGH
        generalize hy : m % 256 = y at hor hwm
        clear hx hy
        have hc1 : ∀ u ∈ [Value.int .u8 (x : Int)], u.oneCell' = true := by intro u hu; simp at hu; subst hu; rfl
        have hc2 : pre.length + 1 ≤ maxLen := by unfold maxLen; omega
        have hc3 : (pre.length + 1) * 1 ≤ 140737488355328 := by omega
        have HC4 := Lib.hid (BK.out.alloc BK.out.size (.cells #[.int .u8 (x : Int)] 5)).size
        go_wp2_with (at_builtin; refine wpList_append_own_at _ rfl _ _ 23 rfl w3.heap.size 5 i0 _ 1 1 Try.underlying23 HI.out HZ0.out HZ1.out HZ2.out rfl (by omega) v _ _ rfl (HO2.out.alloc _) ⟨wr.heap.size, 0, none⟩ 1 1 [Value.int .u8 (x : Int)] rfl rfl (cells_new wr [Value.int .u8 (x : Int)] _) hc1 hc2 hc3 HC4.out ?_; intro v3 w4 hown3 hg3 _ _; clear hc1 hc2 hc3)
        have B3 := Lib.hid ((BK.out.alloc BK.out.size _).grown hg3 HC4.out (fun q hq => (HO2.out.lt q hq).1))
        have HO3 := Lib.hid (ownB_snoc hown3)
        have HG3 := Lib.hid (show (pre ++ [x]) ++ groupsN (m / 128) = (R + M) :: groupsN q from by rw [List.append_assoc, ← HG.out, HGH.out]; rfl)
        clear hg3 hown3
        go_wp2_with fail
        go_roundw
        case rel => exact ⟨v3, m / 128, pre ++ [x], rfl, by go_num, by omega, by rw [List.length_append]; simp; omega, HG3.out, HO3.out, B3.out⟩
        case measure => simp [intOf]; omega
end Go.Proofs.Yteceinojmdgmeaa

