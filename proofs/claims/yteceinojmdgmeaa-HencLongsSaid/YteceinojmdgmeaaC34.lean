/- repr.Put. -/
import Derived.Test.YteceinojmdgmeaaC25
import Derived.Test.YteceinojmdgmeaaC33
namespace Go.Proofs.Yteceinojmdgmeaa
open Go.RowKit
set_option linter.unusedVariables false
set_option linter.unusedSimpArgs false

/-- An item's bytes. -/
def itemN (x : Itm) : List Nat :=
  putN (formF x.kind) (formB x.kind) x.index.toNat ++ (if litK x.kind then (if x.index = 0 then textN x.name else []) ++ textN x.value else [])
theorem textN_len (s : ByteArray) (h : s.size ≤ 4096) : 0 < (textN s).length ∧ (textN s).length ≤ 4000000 := by
  have hz := sizeL_small s h
  unfold textN
  split
  · have := putN_len 128 7 (sizeL s.data.toList) (by omega)
    rw [List.length_append, encL_len]
    omega
  · have := putN_len 0 7 s.size (by omega)
    rw [List.length_append, bytesU_len]
    omega
theorem chk_ok {x : Itm} (h : chkI x = 0) : x.kind ≤ 4 ∧ 0 ≤ x.index ∧ x.index ≤ 268435455 ∧ x.name.size ≤ 4096 ∧ x.value.size ≤ 4096 := by
  unfold chkI at h
  split at h
  · omega
  split at h
  · omega
  split at h
  · omega
  split at h
  · omega
  rename_i h1 h2 _ h3
  omega
def RPutPost (x : Itm) (w : World) (e : Ending) (w' : World) : Prop :=
  (chkI x ≠ 0 ∧ e = .returned (.tuple #[.slice none 0 0, .int .i64 ((chkI x : Nat) : Int)]) ∧ Below w.heap.size w w') ∨ (chkI x = 0 ∧ ∃ v, e = .returned (.tuple #[v, .int .i64 0]) ∧ OwnB w' w.heap.size v (itemN x) ∧ Below w.heap.size w w')
theorem ownB_app {w' : World} {B : Nat} {v : Value} {a b : List Nat} (h : w'.ownsRow B 5 1 v (a.length + b.length) (a.map (fun n : Nat => Value.int .u8 (n : Int)) ++ b.map (fun n : Nat => Value.int .u8 (n : Int)))) : OwnB w' B v (a ++ b) := by
  unfold OwnB
  rw [List.length_append, List.map_append]
  exact h
theorem IRow.grown {W W' : World} {q k : Nat} {i : Int} {nm vl : ByteArray} {v : Value} (h : IRow W q k i nm vl) (hg : W.grownBy W' v.ownBlock) (ho : ∀ g, v.ownBlock = some g → q < g) : IRow W' q k i nm vl :=
  (hg.block _ h.lt (fun e => absurd (ho q e.symm) (Nat.lt_irrefl _))).trans h
theorem one_bytes (l : List Nat) : ∀ u ∈ (l.map fun n : Nat => Value.int .u8 (n : Int)), u.oneCell' = true := by
  intro u hu
  obtain ⟨x, _, rfl⟩ := List.mem_map.1 hu
  rfl
theorem len_bytes (l : List Nat) : (l.map fun n : Nat => Value.int .u8 (n : Int)).length = l.length * 1 := by rw [List.length_map, Nat.mul_one]
set_option maxRecDepth 100000 in
set_option maxHeartbeats 2000000 in
theorem rput_any (k : Nat) (i : Int) (nm vl : ByteArray) (hk : k < 256) (w : World) : Calls Try.prog 26 #[.agg #[.int .u8 (k : Int), .int .i64 i, .string nm, .string vl]] w (RPutPost ⟨k, i, nm, vl⟩ w) := by
  obtain ⟨i0, hi0, hz0, hz1, hz2⟩ := info_parts u8_info
  have HI := Lib.hid hi0
  have HZ0 := Lib.hid hz0
  have HZ1 := Lib.hid hz1
  have HZ2 := Lib.hid hz2
  clear hi0 hz0 hz1 hz2
  have HCK := Lib.hid (fun W => rcheck_any k i nm vl hk W)
  have HTE := Lib.hid (fun W => texts_any k hk W)
  have HB := Lib.hid ((Below.refl w.heap.size w).alloc (Nat.le_refl _) (.cells #[.int .u8 (k : Int), .int .i64 i, .string nm, .string vl] 49))
  have HR := Lib.hid (show IRow _ _ k i nm vl from heap_alloc_new w (.cells #[.int .u8 (k : Int), .int .i64 i, .string nm, .string vl] 49))
  go_enter Try.func26, Try.ntmps26
  go_upto_region 1 with fail
  generalize w.alloc (.cells #[.int .u8 (k : Int), .int .i64 i, .string nm, .string vl] 49) = w1 at HB HR ⊢
  have c0 := HR.out.c0
  have c1 := HR.out.c1
  have c2 := HR.out.c2
  have c3 := HR.out.c3
  go_wp2_with fail
  refine (HCK.out _).mono ?_
  rintro e w2 ⟨rfl, hb⟩
  have HB2 := Lib.hid (HB.out.trans (hb.mono HB.out.size))
  have HR2 := Lib.hid (HR.out.step hb)
  clear hb c0 c1 c2 c3 HB HR
  have c0 := HR2.out.c0
  have c1 := HR2.out.c1
  have c2 := HR2.out.c2
  have c3 := HR2.out.c3
  by_cases hc : chkI ⟨k, i, nm, vl⟩ = 0
  · obtain ⟨h1, h2, h3, h4, h5⟩ := chk_ok hc
    simp only at h1 h2 h3 h4 h5
    obtain ⟨n, rfl⟩ : ∃ n : Nat, i = (n : Int) := ⟨i.toNat, by omega⟩
    have HC := Lib.hid hc
    have hfk := form_k4 k h1
    have HFO := Lib.hid (fun W => form_any k h1 W)
    have HPU := Lib.hid (fun W => put_any (formF k) (formB k) n hfk.1 hfk.2 (by omega) W)
    have HTN := Lib.hid (fun W => text_any nm h4 W)
    have HTV := Lib.hid (fun W => text_any vl h5 W)
    have HIT := Lib.hid (show itemN ⟨k, (n : Int), nm, vl⟩ = putN (formF k) (formB k) n ++ (if litK k then (if (n : Int) = 0 then textN nm else []) ++ textN vl else []) from rfl)
    have HPL := Lib.hid (putN_len (formF k) (formB k) n (by omega))
    have HNL := Lib.hid (textN_len nm h4)
    have HVL := Lib.hid (textN_len vl h5)
    rw [hc]
    clear hc hfk h1 h2 h3 h4 h5
    generalize formF k = ff at HFO HPU HIT HPL
    generalize formB k = fb at HFO HPU HIT HPL
    go_wp2_with fail
    refine (HFO.out _).mono ?_
    rintro e w3 ⟨rfl, hw⟩
    subst hw
    go_wp2_with fail
    refine (HPU.out _).mono ?_
    rintro e w4 ⟨v4, rfl, ho, hb⟩
    have HO4 := Lib.hid (OwnB.mono ho (show w.heap.size + 1 ≤ _ from HR2.out.lt))
    have HB4 := Lib.hid (HB2.out.trans (hb.mono HB2.out.size))
    have HR4 := Lib.hid (HR2.out.step hb)
    clear hb ho c0 c1 c2 c3 HR2 HB2
    have c0 := HR4.out.c0
    have c1 := HR4.out.c1
    have c2 := HR4.out.c2
    have c3 := HR4.out.c3
    go_wp2_with fail
    refine (HTE.out _).mono ?_
    rintro e w5 ⟨rfl, hw⟩
    subst hw
    cases hl : litK k
    · rw [hl] at HIT
      go_wp2_with fail
      refine bodyPost_ret (v := .tuple #[v4, .int .i64 0]) (by simp [results, Try.results26, go_sem]) rfl (.inr ⟨HC.out, _, rfl, ?_, HB4.out⟩)
      rw [HIT.out]
      have h := OwnB.mono HO4.out (Nat.le_succ w.heap.size)
      simpa using h
    · rw [hl] at HIT
      by_cases hn0 : n = 0
      · subst hn0
        have HIT0 := Lib.hid (show itemN ⟨k, ((0 : Nat) : Int), nm, vl⟩ = (putN ff fb 0 ++ textN nm) ++ textN vl from by rw [HIT.out]; simp)
        go_wp2_with fail
        refine (HTN.out _).mono ?_
        rintro e w6 ⟨v6, rfl, ho, hb⟩
        have HB6 := Lib.hid (HB4.out.trans (hb.mono HB4.out.size))
        have HO6 := Lib.hid (owns_below HO4.out hb)
        have HR6 := Lib.hid (HR4.out.step hb)
        have HS6 := Lib.hid (show w.heap.size + 1 ≤ w6.heap.size from HR6.out.lt)
        obtain ⟨g6, cp6, hv6, hg6, hgl6⟩ := World.ownsRow.form ho HNL.out.1
        subst hv6
        have HCE6 := Lib.hid (World.ownsRow.cells ho rfl)
        have HL6 := Lib.hid (show (putN ff fb 0).length + (textN nm).length ≤ maxLen ∧ ((putN ff fb 0).length + (textN nm).length) * 1 ≤ 140737488355328 from by
          have h1 := HPL.out.2
          have h2 := HNL.out.2
          unfold maxLen
          constructor <;> omega)
        clear hb ho hg6 hgl6
        go_wp2_with (at_builtin; refine wpList_append_own_at _ rfl _ _ 23 rfl (w.heap.size + 1) 5 i0 _ 1 1 Try.underlying23 HI.out HZ0.out HZ1.out HZ2.out rfl (by omega) v4 _ _ rfl HO6.out ⟨g6, 0, none⟩ (textN nm).length cp6 ((textN nm).map fun n : Nat => Value.int .u8 (n : Int)) rfl (len_bytes _) HCE6.out (one_bytes _) HL6.out.1 HL6.out.2 HS6.out ?_; intro v7 w7 hown7 hg7 _ _; have HR7 := Lib.hid (IRow.grown HR6.out hg7 (fun g hg => (World.ownsRow.lt HO6.out g hg).1)); have d0 := HR7.out.c0; have d1 := HR7.out.c1; have d2 := HR7.out.c2; have d3 := HR7.out.c3)
        have HB7 := Lib.hid (HB6.out.grown hg7 HB6.out.size (fun q hq => Nat.le_of_succ_le (World.ownsRow.lt HO6.out q hq).1))
        have HO7 := Lib.hid (ownB_app hown7)
        clear hg7 hown7
        refine (HTV.out _).mono ?_
        rintro e w8 ⟨v8, rfl, ho, hb⟩
        have HB8 := Lib.hid (HB7.out.trans (hb.mono HB7.out.size))
        have HO8 := Lib.hid (owns_below HO7.out hb)
        have HR8 := Lib.hid (HR7.out.step hb)
        have HS8 := Lib.hid (show w.heap.size + 1 ≤ w8.heap.size from HR8.out.lt)
        obtain ⟨g8, cp8, hv8, hg8, hgl8⟩ := World.ownsRow.form ho HVL.out.1
        subst hv8
        have HCE8 := Lib.hid (World.ownsRow.cells ho rfl)
        have HL8 := Lib.hid (show (putN ff fb 0 ++ textN nm).length + (textN vl).length ≤ maxLen ∧ ((putN ff fb 0 ++ textN nm).length + (textN vl).length) * 1 ≤ 140737488355328 from by
          have h1 := HPL.out.2
          have h2 := HNL.out.2
          have h3 := HVL.out.2
          rw [List.length_append]
          unfold maxLen
          constructor <;> omega)
        clear hb ho hg8 hgl8
        go_wp2_with (at_builtin; refine wpList_append_own_at _ rfl _ _ 23 rfl (w.heap.size + 1) 5 i0 _ 1 1 Try.underlying23 HI.out HZ0.out HZ1.out HZ2.out rfl (by omega) v7 _ _ rfl HO8.out ⟨g8, 0, none⟩ (textN vl).length cp8 ((textN vl).map fun n : Nat => Value.int .u8 (n : Int)) rfl (len_bytes _) HCE8.out (one_bytes _) HL8.out.1 HL8.out.2 HS8.out ?_; intro v9 w9 hown9 hg9 _ _; have HR9 := Lib.hid (IRow.grown HR8.out hg9 (fun g hg => (World.ownsRow.lt HO8.out g hg).1)); have d0 := HR9.out.c0; have d1 := HR9.out.c1; have d2 := HR9.out.c2; have d3 := HR9.out.c3)
        have HB9 := Lib.hid (HB8.out.grown hg9 HB8.out.size (fun q hq => Nat.le_of_succ_le (World.ownsRow.lt HO8.out q hq).1))
        have HO9 := Lib.hid (ownB_app hown9)
        clear hg9 hown9
        go_wp2_with fail
        refine bodyPost_ret (v := .tuple #[v9, .int .i64 0]) (by simp [results, Try.results26, go_sem]) rfl (.inr ⟨HC.out, _, rfl, ?_, HB9.out⟩)
        rw [HIT0.out]
        exact OwnB.mono HO9.out (Nat.le_succ w.heap.size)
      · have hn0b : ((n : Int) == 0) = false := by simp; omega
        have HIT0 := Lib.hid (show itemN ⟨k, (n : Int), nm, vl⟩ = putN ff fb n ++ textN vl from by rw [HIT.out, if_pos rfl, if_neg (by omega), List.nil_append])
        go_wp2_with fail
        refine (HTV.out _).mono ?_
        rintro e w6 ⟨v6, rfl, ho, hb⟩
        have HB6 := Lib.hid (HB4.out.trans (hb.mono HB4.out.size))
        have HO6 := Lib.hid (owns_below HO4.out hb)
        have HR6 := Lib.hid (HR4.out.step hb)
        have HS6 := Lib.hid (show w.heap.size + 1 ≤ w6.heap.size from HR6.out.lt)
        obtain ⟨g6, cp6, hv6, hg6, hgl6⟩ := World.ownsRow.form ho HVL.out.1
        subst hv6
        have HCE6 := Lib.hid (World.ownsRow.cells ho rfl)
        have HL6 := Lib.hid (show (putN ff fb n).length + (textN vl).length ≤ maxLen ∧ ((putN ff fb n).length + (textN vl).length) * 1 ≤ 140737488355328 from by
          have h1 := HPL.out.2
          have h2 := HVL.out.2
          unfold maxLen
          constructor <;> omega)
        clear hb ho hg6 hgl6
        go_wp2_with (at_builtin; refine wpList_append_own_at _ rfl _ _ 23 rfl (w.heap.size + 1) 5 i0 _ 1 1 Try.underlying23 HI.out HZ0.out HZ1.out HZ2.out rfl (by omega) v4 _ _ rfl HO6.out ⟨g6, 0, none⟩ (textN vl).length cp6 ((textN vl).map fun n : Nat => Value.int .u8 (n : Int)) rfl (len_bytes _) HCE6.out (one_bytes _) HL6.out.1 HL6.out.2 HS6.out ?_; intro v7 w7 hown7 hg7 _ _; have HR7 := Lib.hid (IRow.grown HR6.out hg7 (fun g hg => (World.ownsRow.lt HO6.out g hg).1)); have d0 := HR7.out.c0; have d1 := HR7.out.c1; have d2 := HR7.out.c2; have d3 := HR7.out.c3)
        have HB7 := Lib.hid (HB6.out.grown hg7 HB6.out.size (fun q hq => Nat.le_of_succ_le (World.ownsRow.lt HO6.out q hq).1))
        have HO7 := Lib.hid (ownB_app hown7)
        clear hg7 hown7
        go_wp2_with fail
        refine bodyPost_ret (v := .tuple #[v7, .int .i64 0]) (by simp [results, Try.results26, go_sem]) rfl (.inr ⟨HC.out, _, rfl, ?_, HB7.out⟩)
        rw [HIT0.out]
        exact OwnB.mono HO7.out (Nat.le_succ w.heap.size)
  · have hcb : ((chkI ⟨k, i, nm, vl⟩ : Nat) : Int) ≠ 0 := by omega
    have HC := Lib.hid hc
    generalize hq : chkI ⟨k, i, nm, vl⟩ = q at *
    have hqb : ((q : Int) == 0) = false := by simp; omega
    clear hc hcb
    go_wp2_with fail
    refine bodyPost_ret (v := .tuple #[.slice none 0 0, .int .i64 (q : Int)]) (by simp [results, Try.results26, go_sem]) rfl (.inl ⟨by rw [hq]; exact HC.out, by rw [hq], HB2.out⟩)
end Go.Proofs.Yteceinojmdgmeaa

