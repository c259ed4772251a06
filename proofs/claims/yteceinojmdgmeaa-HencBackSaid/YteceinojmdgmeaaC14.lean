/- RepB · RepD: joined by a program, for a claim has at most 60 files. -/
import Derived.Test.YteceinojmdgmeaaC10
import Derived.Test.YteceinojmdgmeaaC11
import Derived.Lib.AppendStr
import Derived.Test.YteceinojmdgmeaaC13
/- repr.Text. -/
namespace Go.Proofs.Yteceinojmdgmeaa
open Go.RowKit
set_option linter.unusedVariables false
set_option linter.unusedSimpArgs false

def bytesU (s : ByteArray) : List Nat := s.data.toList.map UInt8.toNat
theorem bytesU_len (s : ByteArray) : (bytesU s).length = s.size := by unfold bytesU; rw [List.length_map, Array.length_toList]; rfl
theorem OwnB.mono {w : World} {B B' : Nat} {v : Value} {l : List Nat} (h : OwnB w B v l) (hb : B' ≤ B) : OwnB w B' v l := World.ownsRow.mono h hb
/-- A text's bytes, with its length ahead: by the code where that is shorter. -/
def textN (s : ByteArray) : List Nat :=
  if (putN 0 7 (sizeL s.data.toList)).length + sizeL s.data.toList < (putN 0 7 s.size).length + s.size then putN 128 7 (sizeL s.data.toList) ++ encL s.data.toList else putN 0 7 s.size ++ bytesU s
theorem sizeL_small (s : ByteArray) (h : s.size ≤ 4096) : sizeL s.data.toList ≤ 20000 := by
  have h1 := textBits_len s.data.toList
  have h2 := textBits_le s.data.toList
  have h3 : s.data.toList.length = s.size := by rw [Array.length_toList]; rfl
  unfold sizeL
  omega
theorem sizeL_zero (s : ByteArray) (h : sizeL s.data.toList = 0) : s.size = 0 := by
  have h3 : s.data.toList.length = s.size := by rw [Array.length_toList]; rfl
  have h1 := textBits_len s.data.toList
  unfold sizeL at h
  cases hl : s.data.toList with
  | nil => rw [hl] at h3; simpa using h3.symm
  | cons c l =>
    rw [hl] at h1 h
    have e : textBits (c :: l) = byteBits c ++ textBits l := rfl
    have h2 := (len_range c.toNat c.toNat_lt).1
    rw [e, List.length_append, byteBits_len] at h1
    omega
theorem putN_len (f k n : Nat) (hn : n ≤ 268435455) : 0 < (putN f k n).length ∧ (putN f k n).length ≤ 3000000 := by
  unfold putN
  split
  · simp
  · have := groupsN_len (n - (2 ^ k - 1))
    simp only [List.length_cons]
    omega
theorem strCells_eq (s : ByteArray) : Lib.strCells s = (bytesU s).map (fun n : Nat => Value.int .u8 (n : Int)) := by
  unfold Lib.strCells bytesU
  rw [List.map_map]
  rfl
def TextPost (s : ByteArray) (w : World) (e : Ending) (w' : World) : Prop := ∃ v, e = .returned v ∧ OwnB w' w.heap.size v (textN s) ∧ Below w.heap.size w w'
set_option maxRecDepth 100000 in
set_option maxHeartbeats 2000000 in
theorem text_any (s : ByteArray) (hs : s.size ≤ 4096) (w : World) : Calls Try.prog 52 #[.string s] w (TextPost s w) := by
  obtain ⟨i0, hi0, hz0, hz1, hz2⟩ := info_parts u8_info
  have HI := Lib.hid hi0
  have HZ0 := Lib.hid hz0
  have HZ1 := Lib.hid hz1
  have HZ2 := Lib.hid hz2
  clear hi0 hz0 hz1 hz2
  have hz := sizeL_small s hs
  have HSZ := Lib.hid (fun W => size_any s (by omega) W)
  have HEN := Lib.hid (show ∀ W, Calls Try.prog 78 #[.string s] W fun e w' => ∃ v, e = .returned v ∧ OwnB w' W.heap.size v (encL s.data.toList) ∧ Below W.heap.size W w' from fun W => encode_any s (by omega) W)
  have HP1 := Lib.hid (fun W => psize_any (sizeL s.data.toList) (by omega) W)
  have HP2 := Lib.hid (fun W => psize_any s.size (by omega) W)
  have HPA := Lib.hid (show ∀ W, Calls Try.prog 50 #[.int .u8 128, .int .i64 7, .int .i64 ((sizeL s.data.toList : Nat) : Int)] W (PutPost 128 7 (sizeL s.data.toList) W) from fun W => put_any 128 7 _ (by omega) (by unfold K4; decide) (by omega) W)
  have HPB := Lib.hid (show ∀ W, Calls Try.prog 50 #[.int .u8 0, .int .i64 7, .int .i64 (s.size : Int)] W (PutPost 0 7 s.size W) from fun W => put_any 0 7 _ (by omega) (by unfold K4; decide) (by omega) W)
  have hla := (putN_len 0 7 (sizeL s.data.toList) (by omega)).2
  have hlb := putN_len 0 7 s.size (by omega)
  have hlc := putN_len 128 7 (sizeL s.data.toList) (by omega)
  have HEL := Lib.hid (encL_len s.data.toList)
  have HZE := Lib.hid (show (putN 0 7 (sizeL s.data.toList)).length + sizeL s.data.toList < (putN 0 7 s.size).length + s.size → 0 < sizeL s.data.toList from fun h => by
    rcases Nat.eq_zero_or_pos (sizeL s.data.toList) with h0 | h0
    · rw [h0, sizeL_zero s h0] at h; omega
    · exact h0)
  have HTX := Lib.hid (show textN s = if (putN 0 7 (sizeL s.data.toList)).length + sizeL s.data.toList < (putN 0 7 s.size).length + s.size then putN 128 7 (sizeL s.data.toList) ++ encL s.data.toList else putN 0 7 s.size ++ bytesU s from rfl)
  have HLB := Lib.hid hlb
  have HLC := Lib.hid hlc
  have hlb2 := hlb.2
  generalize sizeL s.data.toList = z at *
  generalize encL s.data.toList = en at HEN HEL HTX
  generalize hp1 : (putN 0 7 z).length = p1 at HP1 hla HTX HZE
  generalize hp2 : (putN 0 7 s.size).length = p2 at HP2 HTX hlb2 HZE
  clear hlb hlc hp1 hp2
  have hw1 : IntKind.i64.wrap ((p1 : Int) + (z : Int)) = (p1 : Int) + (z : Int) := IntWalk.i64_in _ (by omega)
  have hw2 : IntKind.i64.wrap ((p2 : Int) + (s.size : Int)) = (p2 : Int) + (s.size : Int) := IntWalk.i64_in _ (by omega)
  go_enter Try.func52, Try.ntmps52
  go_wp2_with fail
  refine (HSZ.out _).mono ?_
  rintro e w1 ⟨rfl, hb⟩
  have HB1 := Lib.hid hb
  clear hb
  go_wp2_with fail
  refine (HP1.out _).mono ?_
  rintro e w2 ⟨rfl, hb⟩
  have HB2 := Lib.hid (HB1.out.trans (hb.mono HB1.out.size))
  clear hb HB1
  go_wp2_with fail
  refine (HP2.out _).mono ?_
  rintro e w3 ⟨rfl, hb⟩
  have HB3 := Lib.hid (HB2.out.trans (hb.mono HB2.out.size))
  clear hb HB2
  by_cases hlt : p1 + z < p2 + s.size
  · have hb : decide ((p1 : Int) + (z : Int) < (p2 : Int) + (s.size : Int)) = true := decide_eq_true (by omega)
    have hlt2 : (p1 : Int) + (z : Int) < (p2 : Int) + (s.size : Int) := by omega
    have HE := Lib.hid (HTX.out.trans (if_pos hlt))
    have hzp := HZE.out hlt
    go_wp2_with fail
    refine (HPA.out _).mono ?_
    rintro e w4 ⟨v4, rfl, ho, hb⟩
    have HO4 := Lib.hid (OwnB.mono ho HB3.out.size)
    have HB4 := Lib.hid (HB3.out.trans (hb.mono HB3.out.size))
    clear hb ho
    go_wp2_with fail
    refine (HEN.out _).mono ?_
    rintro e w5 ⟨v5, rfl, ho, hb⟩
    have HO5 := Lib.hid (owns_below HO4.out hb)
    have HB5 := Lib.hid (HB4.out.trans (hb.mono HB4.out.size))
    have hel : 0 < en.length := by rw [HEL.out]; exact hzp
    obtain ⟨ge, ce, hv5, _, _⟩ := World.ownsRow.form ho hel
    subst hv5
    have HCE := Lib.hid (World.ownsRow.cells ho rfl)
    have HNL := Lib.hid (show (en.map fun n : Nat => Value.int .u8 (n : Int)).length = en.length * 1 from by rw [List.length_map, Nat.mul_one])
    have hone : ∀ u ∈ (en.map fun n : Nat => Value.int .u8 (n : Int)), u.oneCell' = true := by
      intro u hu
      obtain ⟨x, _, rfl⟩ := List.mem_map.1 hu
      rfl
    have HONE := Lib.hid hone
    have hen : en.length ≤ 20000 := by rw [HEL.out]; omega
    have hl128 := HLC.out.2
    have hc2 : (putN 128 7 z).length + en.length ≤ maxLen := by unfold maxLen; omega
    have hc3 : ((putN 128 7 z).length + en.length) * 1 ≤ 140737488355328 := by omega
    have HC2 := Lib.hid hc2
    have HC3 := Lib.hid hc3
    clear hb ho hone hc2 hc3 hl128 hen hel
    go_wp2_with (at_builtin; refine wpList_append_own_at _ rfl _ _ 23 rfl w.heap.size 5 i0 _ 1 1 Try.underlying23 HI.out HZ0.out HZ1.out HZ2.out rfl (by omega) v4 _ _ rfl HO5.out ⟨ge, 0, none⟩ en.length ce (en.map fun n : Nat => Value.int .u8 (n : Int)) rfl HNL.out HCE.out HONE.out HC2.out HC3.out HB5.out.size ?_; intro v6 w6 hown6 hg6 _ _)
    have B6 := Lib.hid (HB5.out.grown hg6 HB5.out.size (fun q hq => (World.ownsRow.lt HO5.out q hq).1))
    have HO6 := Lib.hid (show OwnB w6 w.heap.size v6 (textN s) from by
      rw [HE.out]
      unfold OwnB
      rw [List.length_append, List.map_append]
      exact hown6)
    clear hg6 hown6
    go_wp2_with fail
    go_ret
    exact ⟨_, rfl, HO6.out, B6.out⟩
  · have hb : decide ((p1 : Int) + (z : Int) < (p2 : Int) + (s.size : Int)) = false := decide_eq_false (by omega)
    have hlt2 : ¬ (p1 : Int) + (z : Int) < (p2 : Int) + (s.size : Int) := by omega
    have HE := Lib.hid (HTX.out.trans (if_neg hlt))
    go_wp2_with fail
    refine (HPB.out _).mono ?_
    rintro e w4 ⟨v4, rfl, ho, hb⟩
    have HO4 := Lib.hid (OwnB.mono ho HB3.out.size)
    have HB4 := Lib.hid (HB3.out.trans (hb.mono HB3.out.size))
    clear hb ho
    have hl7 := HLB.out.2
    have HC2 := Lib.hid (show (putN 0 7 s.size).length + s.size ≤ maxLen from by unfold maxLen; omega)
    have HC3 := Lib.hid (show (putN 0 7 s.size).length + s.size ≤ 140737488355328 from by omega)
    clear hl7
    go_wp2_with (at_builtin; refine Lib.wpList_append_own_string _ rfl _ _ 23 9 rfl w.heap.size 5 i0 Try.underlying23 Try.underlying9 HI.out HZ0.out HZ1.out HZ2.out v4 _ _ rfl HO4.out s rfl HC2.out HC3.out HB4.out.size ?_; intro v6 w6 hown6 hg6 _)
    have B6 := Lib.hid (HB4.out.grown hg6 HB4.out.size (fun q hq => (World.ownsRow.lt HO4.out q hq).1))
    have HO6 := Lib.hid (show OwnB w6 w.heap.size v6 (textN s) from by
      rw [HE.out]
      unfold OwnB
      rw [List.length_append, List.map_append, bytesU_len, ← strCells_eq]
      exact hown6)
    clear hg6 hown6
    go_wp2_with fail
    go_ret
    exact ⟨_, rfl, HO6.out, B6.out⟩
end Go.Proofs.Yteceinojmdgmeaa


/- repr.Put. -/
namespace Go.Proofs.Yteceinojmdgmeaa
open Go.RowKit
set_option linter.unusedVariables false
set_option linter.unusedSimpArgs false

/-- An item's bytes. -/
def itemN (x : Itm) : List Nat :=
  putN (formF x.kind) (formB x.kind) x.index.toNat ++ (if litK x.kind then (if x.index = 0 then textN x.name else []) ++ textN x.value else [])
theorem textN_len (s : ByteArray) (h : s.size ≤ 4096) : 0 < (textN s).length ∧ (textN s).length ≤ 4000000 := by
  have hz := sizeL_small s h
  unfold textN
  split
  · have := putN_len 128 7 (sizeL s.data.toList) (by omega)
    rw [List.length_append, encL_len]
    omega
  · have := putN_len 0 7 s.size (by omega)
    rw [List.length_append, bytesU_len]
    omega
theorem chk_ok {x : Itm} (h : chkI x = 0) : x.kind ≤ 4 ∧ 0 ≤ x.index ∧ x.index ≤ 268435455 ∧ x.name.size ≤ 4096 ∧ x.value.size ≤ 4096 := by
  unfold chkI at h
  split at h
  · omega
  split at h
  · omega
  split at h
  · omega
  split at h
  · omega
  rename_i h1 h2 _ h3
  omega
def RPutPost (x : Itm) (w : World) (e : Ending) (w' : World) : Prop :=
  (chkI x ≠ 0 ∧ e = .returned (.tuple #[.slice none 0 0, .int .i64 ((chkI x : Nat) : Int)]) ∧ Below w.heap.size w w') ∨ (chkI x = 0 ∧ ∃ v, e = .returned (.tuple #[v, .int .i64 0]) ∧ OwnB w' w.heap.size v (itemN x) ∧ Below w.heap.size w w')
theorem ownB_app {w' : World} {B : Nat} {v : Value} {a b : List Nat} (h : w'.ownsRow B 5 1 v (a.length + b.length) (a.map (fun n : Nat => Value.int .u8 (n : Int)) ++ b.map (fun n : Nat => Value.int .u8 (n : Int)))) : OwnB w' B v (a ++ b) := by
  unfold OwnB
  rw [List.length_append, List.map_append]
  exact h
theorem IRow.grown {W W' : World} {q k : Nat} {i : Int} {nm vl : ByteArray} {v : Value} (h : IRow W q k i nm vl) (hg : W.grownBy W' v.ownBlock) (ho : ∀ g, v.ownBlock = some g → q < g) : IRow W' q k i nm vl :=
  (hg.block _ h.lt (fun e => absurd (ho q e.symm) (Nat.lt_irrefl _))).trans h
theorem one_bytes (l : List Nat) : ∀ u ∈ (l.map fun n : Nat => Value.int .u8 (n : Int)), u.oneCell' = true := by
  intro u hu
  obtain ⟨x, _, rfl⟩ := List.mem_map.1 hu
  rfl
theorem len_bytes (l : List Nat) : (l.map fun n : Nat => Value.int .u8 (n : Int)).length = l.length * 1 := by rw [List.length_map, Nat.mul_one]
set_option maxRecDepth 100000 in
set_option maxHeartbeats 2000000 in
theorem rput_any (k : Nat) (i : Int) (nm vl : ByteArray) (hk : k < 256) (w : World) : Calls Try.prog 26 #[.agg #[.int .u8 (k : Int), .int .i64 i, .string nm, .string vl]] w (RPutPost ⟨k, i, nm, vl⟩ w) := by
  obtain ⟨i0, hi0, hz0, hz1, hz2⟩ := info_parts u8_info
  have HI := Lib.hid hi0
  have HZ0 := Lib.hid hz0
  have HZ1 := Lib.hid hz1
  have HZ2 := Lib.hid hz2
  clear hi0 hz0 hz1 hz2
  have HCK := Lib.hid (fun W => rcheck_any k i nm vl hk W)
  have HTE := Lib.hid (fun W => texts_any k hk W)
  have HB := Lib.hid ((Below.refl w.heap.size w).alloc (Nat.le_refl _) (.cells #[.int .u8 (k : Int), .int .i64 i, .string nm, .string vl] 49))
  have HR := Lib.hid (show IRow _ _ k i nm vl from heap_alloc_new w (.cells #[.int .u8 (k : Int), .int .i64 i, .string nm, .string vl] 49))
  go_enter Try.func26, Try.ntmps26
  go_upto_region 1 with fail
  generalize w.alloc (.cells #[.int .u8 (k : Int), .int .i64 i, .string nm, .string vl] 49) = w1 at HB HR ⊢
  have c0 := HR.out.c0
  have c1 := HR.out.c1
  have c2 := HR.out.c2
  have c3 := HR.out.c3
  go_wp2_with fail
  refine (HCK.out _).mono ?_
  rintro e w2 ⟨rfl, hb⟩
  have HB2 := Lib.hid (HB.out.trans (hb.mono HB.out.size))
  have HR2 := Lib.hid (HR.out.step hb)
  clear hb c0 c1 c2 c3 HB HR
  have c0 := HR2.out.c0
  have c1 := HR2.out.c1
  have c2 := HR2.out.c2
  have c3 := HR2.out.c3
  by_cases hc : chkI ⟨k, i, nm, vl⟩ = 0
  · obtain ⟨h1, h2, h3, h4, h5⟩ := chk_ok hc
    simp only at h1 h2 h3 h4 h5
    obtain ⟨n, rfl⟩ : ∃ n : Nat, i = (n : Int) := ⟨i.toNat, by omega⟩
    have HC := Lib.hid hc
    have hfk := form_k4 k h1
    have HFO := Lib.hid (fun W => form_any k h1 W)
    have HPU := Lib.hid (fun W => put_any (formF k) (formB k) n hfk.1 hfk.2 (by omega) W)
    have HTN := Lib.hid (fun W => text_any nm h4 W)
    have HTV := Lib.hid (fun W => text_any vl h5 W)
    have HIT := Lib.hid (show itemN ⟨k, (n : Int), nm, vl⟩ = putN (formF k) (formB k) n ++ (if litK k then (if (n : Int) = 0 then textN nm else []) ++ textN vl else []) from rfl)
    have HPL := Lib.hid (putN_len (formF k) (formB k) n (by omega))
    have HNL := Lib.hid (textN_len nm h4)
    have HVL := Lib.hid (textN_len vl h5)
    rw [hc]
    clear hc hfk h1 h2 h3 h4 h5
    generalize formF k = ff at HFO HPU HIT HPL
    generalize formB k = fb at HFO HPU HIT HPL
    go_wp2_with fail
    refine (HFO.out _).mono ?_
    rintro e w3 ⟨rfl, hw⟩
    subst hw
    go_wp2_with fail
    refine (HPU.out _).mono ?_
    rintro e w4 ⟨v4, rfl, ho, hb⟩
    have HO4 := Lib.hid (OwnB.mono ho (show w.heap.size + 1 ≤ _ from HR2.out.lt))
    have HB4 := Lib.hid (HB2.out.trans (hb.mono HB2.out.size))
    have HR4 := Lib.hid (HR2.out.step hb)
    clear hb ho c0 c1 c2 c3 HR2 HB2
    have c0 := HR4.out.c0
    have c1 := HR4.out.c1
    have c2 := HR4.out.c2
    have c3 := HR4.out.c3
    go_wp2_with fail
    refine (HTE.out _).mono ?_
    rintro e w5 ⟨rfl, hw⟩
    subst hw
    cases hl : litK k
    · rw [hl] at HIT
      go_wp2_with fail
      refine bodyPost_ret (v := .tuple #[v4, .int .i64 0]) (by simp [results, Try.results26, go_sem]) rfl (.inr ⟨HC.out, _, rfl, ?_, HB4.out⟩)
      rw [HIT.out]
      have h := OwnB.mono HO4.out (Nat.le_succ w.heap.size)
      simpa using h
    · rw [hl] at HIT
      by_cases hn0 : n = 0
      · subst hn0
        have HIT0 := Lib.hid (show itemN ⟨k, ((0 : Nat) : Int), nm, vl⟩ = (putN ff fb 0 ++ textN nm) ++ textN vl from by rw [HIT.out]; simp)
        go_wp2_with fail
        refine (HTN.out _).mono ?_
        rintro e w6 ⟨v6, rfl, ho, hb⟩
        have HB6 := Lib.hid (HB4.out.trans (hb.mono HB4.out.size))
        have HO6 := Lib.hid (owns_below HO4.out hb)
        have HR6 := Lib.hid (HR4.out.step hb)
        have HS6 := Lib.hid (show w.heap.size + 1 ≤ w6.heap.size from HR6.out.lt)
        obtain ⟨g6, cp6, hv6, hg6, hgl6⟩ := World.ownsRow.form ho HNL.out.1
        subst hv6
        have HCE6 := Lib.hid (World.ownsRow.cells ho rfl)
        have HL6 := Lib.hid (show (putN ff fb 0).length + (textN nm).length ≤ maxLen ∧ ((putN ff fb 0).length + (textN nm).length) * 1 ≤ 140737488355328 from by
          have h1 := HPL.out.2
          have h2 := HNL.out.2
          unfold maxLen
          constructor <;> omega)
        clear hb ho hg6 hgl6
        go_wp2_with (at_builtin; refine wpList_append_own_at _ rfl _ _ 23 rfl (w.heap.size + 1) 5 i0 _ 1 1 Try.underlying23 HI.out HZ0.out HZ1.out HZ2.out rfl (by omega) v4 _ _ rfl HO6.out ⟨g6, 0, none⟩ (textN nm).length cp6 ((textN nm).map fun n : Nat => Value.int .u8 (n : Int)) rfl (len_bytes _) HCE6.out (one_bytes _) HL6.out.1 HL6.out.2 HS6.out ?_; intro v7 w7 hown7 hg7 _ _; have HR7 := Lib.hid (IRow.grown HR6.out hg7 (fun g hg => (World.ownsRow.lt HO6.out g hg).1)); have d0 := HR7.out.c0; have d1 := HR7.out.c1; have d2 := HR7.out.c2; have d3 := HR7.out.c3)
        have HB7 := Lib.hid (HB6.out.grown hg7 HB6.out.size (fun q hq => Nat.le_of_succ_le (World.ownsRow.lt HO6.out q hq).1))
        have HO7 := Lib.hid (ownB_app hown7)
        clear hg7 hown7
        refine (HTV.out _).mono ?_
        rintro e w8 ⟨v8, rfl, ho, hb⟩
        have HB8 := Lib.hid (HB7.out.trans (hb.mono HB7.out.size))
        have HO8 := Lib.hid (owns_below HO7.out hb)
        have HR8 := Lib.hid (HR7.out.step hb)
        have HS8 := Lib.hid (show w.heap.size + 1 ≤ w8.heap.size from HR8.out.lt)
        obtain ⟨g8, cp8, hv8, hg8, hgl8⟩ := World.ownsRow.form ho HVL.out.1
        subst hv8
        have HCE8 := Lib.hid (World.ownsRow.cells ho rfl)
        have HL8 := Lib.hid (show (putN ff fb 0 ++ textN nm).length + (textN vl).length ≤ maxLen ∧ ((putN ff fb 0 ++ textN nm).length + (textN vl).length) * 1 ≤ 140737488355328 from by
          have h1 := HPL.out.2
          have h2 := HNL.out.2
          have h3 := HVL.out.2
          rw [List.length_append]
          unfold maxLen
          constructor <;> omega)
        clear hb ho hg8 hgl8
        go_wp2_with (at_builtin; refine wpList_append_own_at _ rfl _ _ 23 rfl (w.heap.size + 1) 5 i0 _ 1 1 Try.underlying23 HI.out HZ0.out HZ1.out HZ2.out rfl (by omega) v7 _ _ rfl HO8.out ⟨g8, 0, none⟩ (textN vl).length cp8 ((textN vl).map fun n : Nat => Value.int .u8 (n : Int)) rfl (len_bytes _) HCE8.out (one_bytes _) HL8.out.1 HL8.out.2 HS8.out ?_; intro v9 w9 hown9 hg9 _ _; have HR9 := Lib.hid (IRow.grown HR8.out hg9 (fun g hg => (World.ownsRow.lt HO8.out g hg).1)); have d0 := HR9.out.c0; have d1 := HR9.out.c1; have d2 := HR9.out.c2; have d3 := HR9.out.c3)
        have HB9 := Lib.hid (HB8.out.grown hg9 HB8.out.size (fun q hq => Nat.le_of_succ_le (World.ownsRow.lt HO8.out q hq).1))
        have HO9 := Lib.hid (ownB_app hown9)
        clear hg9 hown9
        go_wp2_with fail
        refine bodyPost_ret (v := .tuple #[v9, .int .i64 0]) (by simp [results, Try.results26, go_sem]) rfl (.inr ⟨HC.out, _, rfl, ?_, HB9.out⟩)
        rw [HIT0.out]
        exact OwnB.mono HO9.out (Nat.le_succ w.heap.size)
      · have hn0b : ((n : Int) == 0) = false := by simp; omega
        have HIT0 := Lib.hid (show itemN ⟨k, (n : Int), nm, vl⟩ = putN ff fb n ++ textN vl from by rw [HIT.out, if_pos rfl, if_neg (by omega), List.nil_append])
        go_wp2_with fail
        refine (HTV.out _).mono ?_
        rintro e w6 ⟨v6, rfl, ho, hb⟩
        have HB6 := Lib.hid (HB4.out.trans (hb.mono HB4.out.size))
        have HO6 := Lib.hid (owns_below HO4.out hb)
        have HR6 := Lib.hid (HR4.out.step hb)
        have HS6 := Lib.hid (show w.heap.size + 1 ≤ w6.heap.size from HR6.out.lt)
        obtain ⟨g6, cp6, hv6, hg6, hgl6⟩ := World.ownsRow.form ho HVL.out.1
        subst hv6
        have HCE6 := Lib.hid (World.ownsRow.cells ho rfl)
        have HL6 := Lib.hid (show (putN ff fb n).length + (textN vl).length ≤ maxLen ∧ ((putN ff fb n).length + (textN vl).length) * 1 ≤ 140737488355328 from by
          have h1 := HPL.out.2
          have h2 := HVL.out.2
          unfold maxLen
          constructor <;> omega)
        clear hb ho hg6 hgl6
        go_wp2_with (at_builtin; refine wpList_append_own_at _ rfl _ _ 23 rfl (w.heap.size + 1) 5 i0 _ 1 1 Try.underlying23 HI.out HZ0.out HZ1.out HZ2.out rfl (by omega) v4 _ _ rfl HO6.out ⟨g6, 0, none⟩ (textN vl).length cp6 ((textN vl).map fun n : Nat => Value.int .u8 (n : Int)) rfl (len_bytes _) HCE6.out (one_bytes _) HL6.out.1 HL6.out.2 HS6.out ?_; intro v7 w7 hown7 hg7 _ _; have HR7 := Lib.hid (IRow.grown HR6.out hg7 (fun g hg => (World.ownsRow.lt HO6.out g hg).1)); have d0 := HR7.out.c0; have d1 := HR7.out.c1; have d2 := HR7.out.c2; have d3 := HR7.out.c3)
        have HB7 := Lib.hid (HB6.out.grown hg7 HB6.out.size (fun q hq => Nat.le_of_succ_le (World.ownsRow.lt HO6.out q hq).1))
        have HO7 := Lib.hid (ownB_app hown7)
        clear hg7 hown7
        go_wp2_with fail
        refine bodyPost_ret (v := .tuple #[v7, .int .i64 0]) (by simp [results, Try.results26, go_sem]) rfl (.inr ⟨HC.out, _, rfl, ?_, HB7.out⟩)
        rw [HIT0.out]
        exact OwnB.mono HO7.out (Nat.le_succ w.heap.size)
  · have hcb : ((chkI ⟨k, i, nm, vl⟩ : Nat) : Int) ≠ 0 := by omega
    have HC := Lib.hid hc
    generalize hq : chkI ⟨k, i, nm, vl⟩ = q at *
    have hqb : ((q : Int) == 0) = false := by simp; omega
    clear hc hcb
    go_wp2_with fail
    refine bodyPost_ret (v := .tuple #[.slice none 0 0, .int .i64 (q : Int)]) (by simp [results, Try.results26, go_sem]) rfl (.inl ⟨by rw [hq]; exact HC.out, by rw [hq], HB2.out⟩)
end Go.Proofs.Yteceinojmdgmeaa

