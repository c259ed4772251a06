/- Pairs are printed: query.Print. -/
import Derived.Test.YtbpcknjobbjmpaaDoorQryF
namespace Go.Proofs.YtbpcknjobbjmpaaDoor
open Go.RowKit
set_option linter.unusedVariables false
set_option linter.unusedSimpArgs false

theorem pairS_le (p : Pr) (M : Nat) (h1 : p.k.size ≤ M) (h2 : p.v.size ≤ M) : (pairS p).size ≤ 6 * M + 1 := by
  unfold pairS
  rw [ByteArray.size_append, ByteArray.size_append]
  have a := encS_le p.k
  have b := encS_le p.v
  have e : (ByteArray.mk #[61]).size = 1 := rfl
  omega
theorem printT_le (L : List Pr) (M n : Nat) (h : ∀ p ∈ L, p.k.size ≤ M ∧ p.v.size ≤ M) (hn : L.length ≤ n) : (printT L).size ≤ (6 * M + 2) * n := by
  unfold printT
  have := join_size (L.map pairS) 38 (6 * M + 1) (fun x hx => by
    obtain ⟨p, hp, rfl⟩ := List.mem_map.1 hx
    exact pairS_le p M (h p hp).1 (h p hp).2)
  rw [List.length_map] at this
  exact Nat.le_trans this (Nat.mul_le_mul_left _ hn)
set_option maxRecDepth 100000 in
set_option maxHeartbeats 20000000 in
theorem print_any (oa : Option Addr) (n cap : Nat) (L : List Pr) (hn : L.length = n) (hl : n ≤ 1000) (hL : ∀ p ∈ L, p.k.size ≤ 1000 ∧ p.v.size ≤ 1000) (w : World) (hf : PairsN w oa L) :
    Calls Tryd.prog 32 #[.slice oa n cap] w fun e w' => e = .returned (.string (printT L)) ∧ Below w.heap.size w w' := by
  have HF := Lib.hid hf
  have HN := Lib.hid hn
  have HLL := Lib.hid hL
  have hpl := printT_le L 1000 n hL (by omega)
  clear hf
  obtain ⟨i0, hi0, hz0, hz1, hz2⟩ := info_parts string_info
  have HI := Lib.hid hi0
  have HZ0 := Lib.hid hz0
  have HZ1 := Lib.hid hz1
  have HZ2 := Lib.hid hz2
  clear hi0 hz0 hz1 hz2
  go_enter Tryd.func32, Tryd.ntmps32
  go_wp2_with fail
  go_loopw [3, 8] (fun ov ii wr => ∃ (k : Nat) (vv : Value), ov = vv ∧ ii = .int .i64 k ∧ k ≤ n ∧ OwnS wr w.heap.size vv ((L.take k).map pairS) ∧ Below w.heap.size w wr) (fun _ ii _ => n - (intOf ii).toNat)
  case atStart => exact ⟨0, _, rfl, rfl, by omega, OwnS.nil _ _, Below.refl _ _⟩
  case round =>
    obtain ⟨k, v, hv, rfl, hk, hown, hb⟩ := hrel
    obtain rfl := hv.symm
    have HO := Lib.hid hown
    have HB := Lib.hid hb
    clear hown hb hv
    by_cases hlt : k < n
    · have q4 : decide ((k : Int) < (n : Int)) = true := decide_eq_true (by omega)
      have q5 : (k : Int) < (n : Int) := by omega
      have hw5 : IntKind.i64.wrap ((k : Int) + 1) = (k : Int) + 1 := IntWalk.i64_in _ (by omega)
      obtain ⟨p, hpk⟩ : ∃ p, L[k]? = some p := ⟨L[k]'(by omega), List.getElem?_eq_getElem _⟩
      obtain ⟨b, o, rfl, c1, c2⟩ := (HF.out.below HB.out) k p hpk
      obtain ⟨hk1, hv1⟩ := HLL.out p (List.mem_of_getElem? hpk)
      have I1 := Lib.hid (encode_any p.k (by omega))
      have I2 := Lib.hid (encode_any p.v (by omega))
      have hx := encS_le p.k
      have hy := encS_le p.v
      have HST := Lib.hid (show (L.take (k + 1)).map pairS = (L.take k).map pairS ++ [encS p.k ++ ⟨#[61]⟩ ++ encS p.v] from by rw [List.take_add_one, hpk]; simp [pairS])
      change Hid (∀ w, Calls Tryd.prog 28 #[.string p.k] w fun e w' => e = .returned (.string (encS p.k)) ∧ Below w.heap.size w w') at I1
      change Hid (∀ w, Calls Tryd.prog 28 #[.string p.v] w fun e w' => e = .returned (.string (encS p.v)) ∧ Below w.heap.size w w') at I2
      have hml : ((L.take k).map pairS).length = k := by rw [List.length_map, List.length_take]; omega
      generalize (L.take k).map pairS = OL at HO HST hml
      have HML := Lib.hid hml
      generalize encS p.k = X at I1 hx HST
      generalize encS p.v = Y at I2 hy HST
      generalize p.k = kx at *
      generalize p.v = vx at *
      have f1 : ¬ (9223372036854775807 < X.size + 1) := by omega
      have f2 : ¬ (9223372036854775807 < X.size + 1 + Y.size) := by omega
      have g1 : ¬ (9223372036854775807 < X.size + (⟨#[61]⟩ : ByteArray).size) := f1
      have g2 : ¬ (9223372036854775807 < (X ++ ⟨#[61]⟩).size + Y.size) := by rw [ByteArray.size_append]; exact f2
      have HONE := Lib.hid (show ∀ s : ByteArray, ∀ u ∈ [Value.string s], u.oneCell' = true from fun s u hu => by simp at hu; subst hu; rfl)
      clear hml
      go_upto_region 5 with fail
      have hr3 := heap_alloc_new wr (.cells #[.string kx, .string vx] 104)
      have hb3 := HB.out.alloc HB.out.size (.cells #[.string kx, .string vx] 104)
      have ho3 := World.ownsRow.alloc HO.out (.cells #[.string kx, .string vx] 104)
      have hbs : w.heap.size ≤ wr.heap.size := HB.out.size
      generalize hbb : wr.heap.size = b2 at hr3 hbs ⊢
      generalize wr.alloc (.cells #[.string kx, .string vx] 104) = w3 at hr3 hb3 ho3 ⊢
      have hlt3 : b2 < w3.heap.size := (Array.getElem?_eq_some_iff.1 hr3).1
      have HC := Lib.hid (show ∀ W : World, W.heap[b2]? = w3.heap[b2]? → W.cell? ⟨b2, 0, none⟩ = some (.string kx) ∧ W.cell? ⟨b2, 1, none⟩ = some (.string vx) from fun W hW => (res2 (hW.trans hr3)).1)
      have HO3 := Lib.hid (show OwnS w3 w.heap.size v OL from ho3)
      have HROW := Lib.hid (show ∀ q, v.ownBlock = some q → w.heap.size ≤ q ∧ q < b2 from fun q hq => by rw [← hbb]; exact World.ownsRow.lt HO.out q hq)
      have HB3 := Lib.hid hb3
      have hs3 : w.heap.size ≤ w3.heap.size := HB3.out.size
      have HBN := (Below.refl w3.heap.size w3).drew
      clear hb3 hr3 hbb ho3 c1 c2
      go_region_held3 (fun W => W.cell? ⟨b2, 0, none⟩ = some (.string kx) ∧ W.cell? ⟨b2, 1, none⟩ = some (.string vx)) (first | exact HS5 | exact HC.out _ (HBN.block b2 hlt3) | exact HC.out _ ((HBN.alloc HBN.size _).block b2 hlt3)) (first
        | (go_at_call 28; first
            | ((with_reducible refine (I1.out _).mono ?_); rintro e w4 ⟨rfl, hb⟩; have HBN := HBN.trans (hb.mono HBN.size); clear hb I1)
            | ((with_reducible refine (I2.out _).mono ?_); rintro e w4 ⟨rfl, hb⟩; have HBN := HBN.trans (hb.mono HBN.size); clear hb))
        | (refine step_append_lies _ (by rfl) _ _ _ (by rfl) w.heap.size 9 i0 _ 1 16 Tryd.underlying47 HI.out HZ0.out HZ1.out HZ2.out rfl (by decide) v _ _ (by rfl) (World.ownsRow.alloc (HO3.out.below HBN) _) ⟨w4.heap.size, 0, none⟩ 1 1 [Value.string (X ++ ⟨#[61]⟩ ++ Y)] (by rfl) rfl (cells_new _ [Value.string (X ++ ⟨#[61]⟩ ++ Y)] _) (HONE.out _) (by decide) (by rw [HML.out]; unfold maxLen; omega) (by rw [HML.out]; omega) (by have := HBN.size; simp; omega) (w4.heap.size + 1) (by simp) ?_; intro gg cap w5 hown hgrow hat hlt5; have HO5 := OwnS.snoc hown; have HB5 := ((HB3.out.trans (HBN.mono hs3)).alloc (Nat.le_trans hs3 HBN.size) _).grown hgrow (by have := HBN.size; simp; omega) (fun q hq => (HROW.out q hq).1); have HS5 := HC.out w5 ((hgrow.block b2 (by have := HBN.size; simp; omega) (by intro e; have := (HROW.out b2 e.symm).2; omega)).trans ((HBN.alloc HBN.size _).block b2 hlt3))))
      all_goals (
        go_wp2_with fail
        refine ⟨⟨k + 1, _, rfl, rfl, hlt, by rw [HST.out]; exact HO5, HB5⟩, ?_⟩
        simp [intOf]
        omega)
    · have q4 : decide ((k : Int) < (n : Int)) = false := decide_eq_false (by omega)
      have hall : L.take k = L := List.take_of_length_le (by omega)
      rw [hall] at HO
      have CJ := Lib.hid (join_any 38 wr w.heap.size v (L.map pairS) HO.out (by show (printT L).size ≤ _; omega) (by rw [List.length_map]; omega))
      change Hid (Calls Tryd.prog 55 #[v, .string ⟨#[38]⟩] wr fun e w' => e = .returned (.string (printT L)) ∧ Below wr.heap.size wr w') at CJ
      generalize hE : printT L = E at CJ
      go_wp2_with (first
        | (go_at_call 55; refine CJ.out.mono ?_; rintro e w6 ⟨rfl, hb6⟩; have HB6 := Lib.hid hb6; clear hb6))
      go_ret
      subst hE
      exact ⟨rfl, HB.out.trans (HB6.out.mono HB.out.size)⟩
#print axioms print_any
end Go.Proofs.YtbpcknjobbjmpaaDoor
