/- henc: whether a field is too long: slices.ContainsFunc by henc.long; Limit. -/
import Derived.Test.YteceinojmdgmeaaC37
namespace Go.Proofs.Yteceinojmdgmeaa
open Go.RowKit
set_option linter.unusedVariables false
set_option linter.unusedSimpArgs false

abbrev LongV : Value := .func (.func 59) #[] #[]
set_option maxRecDepth 100000 in
set_option maxHeartbeats 2000000 in
theorem eindex_any (oa : Option Addr) (n cap : Nat) (L : List Fld) (hn : L.length = n) (hn30 : n ≤ 100000) (w : World) (hf : FieldsN w oa L) :
    Calls Try.prog 84 #[.slice oa n cap, LongV] w fun e w' => ∃ r : Int, e = .returned (.int .i64 r) ∧ decide (0 ≤ r) = L.any longF ∧ Below w.heap.size w w' := by
  have HN := Lib.hid hn
  have HFW := Lib.hid (show ∀ W, Below w.heap.size w W → FieldsN W oa L from fun W hW => hf.below hW)
  clear hn hf
  go_enter Try.func84, Try.ntmps84
  go_wp2_with fail
  go_loopw [5, 8] (fun sv iv wr => ∃ (k : Nat) (u : Value), sv = u ∧ iv = .int .i64 k ∧ k ≤ n ∧ (L.take k).any longF = false ∧ Below w.heap.size w wr) (fun _ iv _ => n - (intOf iv).toNat)
  case atStart => exact ⟨0, _, rfl, rfl, Nat.zero_le _, rfl, Below.refl _ _⟩
  case round =>
    obtain ⟨k, u, hu, rfl, hk, hno, hb⟩ := hrel
    obtain rfl := hu.symm
    have HNO := Lib.hid hno
    have HB := Lib.hid hb
    clear hno hb hu
    by_cases hlt : k < n
    · have q1 : decide ((k : Int) < (n : Int)) = true := decide_eq_true (by omega)
      have hw8 : IntKind.i64.wrap ((k : Int) + 1) = (k : Int) + 1 := IntWalk.i64_in _ (by omega)
      obtain ⟨f, hx⟩ : ∃ f, L[k]? = some f := ⟨L[k]'(by rw [HN.out]; exact hlt), List.getElem?_eq_getElem _⟩
      obtain ⟨b0, o0, rfl, l0, l1, l2⟩ := (HFW.out _ HB.out) k f hx
      have HTK := Lib.hid (show (L.take (k + 1)).any longF = longF f from by rw [List.take_add_one, hx, List.any_append, HNO.out]; simp)
      have HMEM := Lib.hid (show longF f = true → L.any longF = true from fun h => List.any_eq_true.2 ⟨f, List.mem_of_getElem? hx, h⟩)
      have HLG := Lib.hid (fun W => elong_any f W)
      obtain ⟨fn, fv, fb⟩ := f
      dsimp only at l0 l1 l2
      clear hx
      generalize longF ⟨fn, fv, fb⟩ = lb at HTK HLG HMEM
      cases lb
      · go_wp2_with (first | (go_at_call 59; refine (HLG.out _).mono ?_; rintro e w2 ⟨rfl, hb⟩; replace HB := Lib.hid (bs_hd HB.out hb); clear hb))
        go_roundw
        case rel => exact ⟨k + 1, _, rfl, by go_num, by omega, HTK.out, HB.out⟩
        case measure => simp [intOf]; omega
      · go_wp2_with (first | (go_at_call 59; refine (HLG.out _).mono ?_; rintro e w2 ⟨rfl, hb⟩; replace HB := Lib.hid (bs_hd HB.out hb); clear hb))
        go_ret
        exact ⟨(k : Int), rfl, by rw [HMEM.out (by trivial)]; exact decide_eq_true (by omega), HB.out⟩
    · obtain rfl : k = n := by omega
      have q1 : decide ((k : Int) < (k : Int)) = false := by simp
      rw [List.take_of_length_le (by rw [HN.out]; exact Nat.le_refl _)] at HNO
      go_wp2_with fail
      go_ret
      exact ⟨-1, rfl, by rw [HNO.out]; rfl, HB.out⟩
set_option maxRecDepth 100000 in
set_option maxHeartbeats 2000000 in
theorem econtains_any (oa : Option Addr) (n cap : Nat) (L : List Fld) (hn : L.length = n) (hn30 : n ≤ 100000) (w : World) (hf : FieldsN w oa L) :
    Calls Try.prog 58 #[.slice oa n cap, LongV] w fun e w' => e = .returned (.bool (L.any longF)) ∧ Below w.heap.size w w' := by
  have HI := Lib.hid (eindex_any oa n cap L hn hn30 w hf)
  clear hn hf
  go_enter Try.func58, Try.ntmps58
  go_wp2_with fail
  refine HI.out.mono ?_
  rintro e w2 ⟨r, rfl, hr, hb⟩
  go_wp2_with fail
  go_ret
  exact ⟨rfl, hb⟩
/-- What Limit makes. -/
def limE (mx le la most : Int) (L : List Fld) : Int := if echk mx le la L ≠ 0 then echk mx le la L else if most < 0 then 8 else 0
def limLe (mx le la most : Int) (L : List Fld) : Int := if limE mx le la most L ≠ 0 then le else min le (min most 4096)
def limLa (mx le la most : Int) (L : List Fld) : Int := if limE mx le la most L ≠ 0 then la else min most 4096
set_option maxRecDepth 100000 in
set_option maxHeartbeats 2000000 in
theorem elimit_any (mx le la : Int) (oa : Option Addr) (n cap : Nat) (L : List Fld) (hn : L.length = n) (hl : ∀ f ∈ L, lightF f = true) (hn30 : n ≤ 1000) (most : Int) (w : World) (hf : FieldsN w oa L) :
    Calls Try.prog 32 #[.agg #[.int .i64 mx, .slice oa n cap, .int .i64 le, .int .i64 la], .int .i64 most] w fun e w' => e = .returned (.tuple #[.agg #[.int .i64 mx, .slice oa n cap, .int .i64 (limLe mx le la most L), .int .i64 (limLa mx le la most L)], .int .i64 (limE mx le la most L)]) ∧ Below w.heap.size w w' := by
  have HB := Lib.hid (bs_hd (below_new (W := w) (.cells #[.int .i64 mx, .slice oa n cap, .int .i64 le, .int .i64 la] 30)) (below_new (.cells #[.int .i64 0, .slice none 0 0, .int .i64 0, .int .i64 0] 30)))
  have HR := Lib.hid ((ERow.new w mx le la (.slice oa n cap)).step (below_new (.cells #[.int .i64 0, .slice none 0 0, .int .i64 0, .int .i64 0] 30)))
  have HS : Hid (ERow ((w.alloc (.cells #[.int .i64 mx, .slice oa n cap, .int .i64 le, .int .i64 la] 30)).alloc (.cells #[.int .i64 0, .slice none 0 0, .int .i64 0, .int .i64 0] 30)) (w.heap.size + 1) 0 (.slice none 0 0) 0 0) := Lib.hid (two1 _ _ _)
  have HC := Lib.hid (fun W (hW : Below w.heap.size w W) => echeck_any mx le la oa n cap L hn hl hn30 W (hf.below hW))
  have HE : Hid (limE mx le la most L = if echk mx le la L ≠ 0 then echk mx le la L else if most < 0 then 8 else 0) := Lib.hid rfl
  have HLE : Hid (limLe mx le la most L = if limE mx le la most L ≠ 0 then le else min le (min most 4096)) := Lib.hid rfl
  have HLA : Hid (limLa mx le la most L = if limE mx le la most L ≠ 0 then la else min most 4096) := Lib.hid rfl
  generalize limLe mx le la most L = le2 at HLE ⊢
  generalize limLa mx le la most L = la2 at HLA ⊢
  generalize limE mx le la most L = er at HE HLE HLA ⊢
  generalize echk mx le la L = k at HC HE
  clear hf hl hn
  go_enter Try.func32, Try.ntmps32
  go_upto_region 1 with fail
  generalize ((w.alloc (.cells #[.int .i64 mx, .slice oa n cap, .int .i64 le, .int .i64 la] 30)).alloc (.cells #[.int .i64 0, .slice none 0 0, .int .i64 0, .int .i64 0] 30)) = w1 at HB HR HS ⊢
  have c0 := HR.out.c0
  have c1 := HR.out.c1
  have c2 := HR.out.c2
  have c3 := HR.out.c3
  go_upto_region 2 with (first | (go_at_call 35; refine (HC.out _ HB.out).mono ?_; rintro e w2 ⟨rfl, hb⟩; replace HB := Lib.hid (bs_hd HB.out hb); replace HR := Lib.hid (HR.out.step hb); replace HS := Lib.hid (HS.out.step hb); clear hb))
  clear c0 c1 c2 c3
  have c0 := HR.out.c0
  have c1 := HR.out.c1
  have c2 := HR.out.c2
  have c3 := HR.out.c3
  by_cases hk : k = 0
  · subst hk
    rw [if_neg (by simp)] at HE
    by_cases hm : most < 0
    · have q1 : decide (most < 0) = true := decide_eq_true hm
      rw [if_pos hm] at HE
      obtain rfl := HE.out
      rw [if_pos (by decide)] at HLE HLA
      obtain rfl := HLE.out
      obtain rfl := HLA.out
      go_wp2_with (first | (refine wpList_store_row rfl _ _ _ rfl (w.heap.size + 1) #[.int .i64 mx, .slice oa n cap, .int .i64 le2, .int .i64 la2] rfl rfl _ _ HS.out (by kernel_rfl) rfl (by kernel_rfl) ?_))
      try rw [Exit.noGoto_ret]
      exact bodyPost_ret (v := .tuple #[.agg #[.int .i64 mx, .slice oa n cap, .int .i64 le2, .int .i64 la2], .int .i64 8]) (res_cell2 rfl _ _ (w.heap.size + 1) _ _ (0, 0) _ rfl (setRow_heap _ _ _ _ _ _ HS.out) Try.underlying30 rfl (by kernel_rfl) _ rfl) rfl
        ⟨rfl, below_row HB.out (by omega) _⟩
    · have q1 : decide (most < 0) = false := decide_eq_false hm
      rw [if_neg hm] at HE
      obtain rfl := HE.out
      rw [if_neg (by simp)] at HLE HLA
      generalize hmin : min most 4096 = mm at HLE HLA
      have q2 : (if most ≤ 4096 then most else 4096) = mm := by rw [← hmin]; rfl
      obtain rfl := HLA.out
      obtain rfl := HLE.out
      go_wp2_with (first | (refine wpList_store_row rfl _ _ _ rfl (w.heap.size + 1) #[.int .i64 mx, .slice oa n cap, .int .i64 (min le la2), .int .i64 la2] rfl rfl _ _ HS.out (by kernel_rfl) rfl (by kernel_rfl) ?_))
      try rw [Exit.noGoto_ret]
      exact bodyPost_ret (v := .tuple #[.agg #[.int .i64 mx, .slice oa n cap, .int .i64 (min le la2), .int .i64 la2], .int .i64 0]) (res_cell2 rfl _ _ (w.heap.size + 1) _ _ (0, 0) _ rfl (setRow_heap _ _ _ _ _ _ HS.out) Try.underlying30 rfl (by kernel_rfl) _ rfl) rfl
        ⟨rfl, below_row HB.out (by omega) _⟩
  · have q1 : (k == 0) = false := beq_eq_false_iff_ne.2 hk
    have q2 : (k != 0) = true := by rw [bne, q1]; rfl
    rw [if_pos hk] at HE
    obtain rfl := HE.out
    rw [if_pos hk] at HLE HLA
    obtain rfl := HLE.out
    obtain rfl := HLA.out
    go_wp2_with (first | (refine wpList_store_row rfl _ _ _ rfl (w.heap.size + 1) #[.int .i64 mx, .slice oa n cap, .int .i64 le2, .int .i64 la2] rfl rfl _ _ HS.out (by kernel_rfl) rfl (by kernel_rfl) ?_))
    try rw [Exit.noGoto_ret]
    exact bodyPost_ret (v := .tuple #[.agg #[.int .i64 mx, .slice oa n cap, .int .i64 le2, .int .i64 la2], .int .i64 er]) (res_cell2 rfl _ _ (w.heap.size + 1) _ _ (0, 0) _ rfl (setRow_heap _ _ _ _ _ _ HS.out) Try.underlying30 rfl (by kernel_rfl) _ rfl) rfl
      ⟨rfl, below_row HB.out (by omega) _⟩
end Go.Proofs.Yteceinojmdgmeaa

