/- FldW · HnI · HnJ · HnK: joined by a program, for a claim has at most 60 files. -/
import Derived.Test.YteceinojmdgmeaaC26
import Derived.Test.YteceinojmdgmeaaC28
import Derived.Test.YteceinojmdgmeaaC21
import Derived.Test.YteceinojmdgmeaaC50
import Derived.KernelRfl
import Derived.Test.YteceinojmdgmeaaC11
/- What every right program does with three fields: footmanlaw04.awake. -/
namespace Go.Proofs.Yteceinojmdgmeaa
open Go.RowKit
set_option linter.unusedVariables false
set_option linter.unusedSimpArgs false

def ba (x : UInt8) : ByteArray := ⟨#[x]⟩
def fA : Fld := ⟨ba 97, ba 98, false⟩
def fC : Fld := ⟨ba 99, ba 100, false⟩
def fCn : Fld := ⟨ba 99, ba 100, true⟩
def fE : Fld := ⟨ba 101, ba 102, false⟩
theorem addL_1 : addL 80 [] fA = [fA] := by rfl
theorem addL_2 : addL 80 [fA] fCn = [fC, fA] := by rfl
theorem addL_3 : addL 80 [fC, fA] fE = [fE, fC] := by rfl
theorem res_1 : resL 80 40 [fE, fC] = [fE] ∧ resM 80 40 [fE, fC] = 40 ∧ resE 80 40 [fE, fC] = 0 := ⟨rfl, rfl, rfl⟩
theorem res_2 : resL 80 4097 [fE, fC] = [fE, fC] ∧ resM 80 4097 [fE, fC] = 80 ∧ resE 80 4097 [fE, fC] = 8 := ⟨rfl, rfl, rfl⟩
theorem light_1 : ∀ f ∈ [fA, fC, fE], lightF f = true := by
  intro f hf
  simp at hf
  rcases hf with rfl | rfl | rfl <;> rfl
/-- Where a field stands is told by DFound alone. -/
theorem NamG.uniq {g : Nat → Fld} {n : ByteArray} {k m m' : Nat} (h : NamG g n k m) (h' : NamG g n k m') : m = m' := by
  rcases h with ⟨h1, h2⟩ | ⟨q, h1, h2, h3, h4⟩ <;> rcases h' with ⟨i1, i2⟩ | ⟨r, i1, i2, i3, i4⟩
  · omega
  · exact absurd i3 (h2 r i1)
  · exact absurd h3 (i2 q h1)
  · rcases Nat.lt_trichotomy q r with hlt | heq | hgt
    · exact absurd h3 (i4 q hlt)
    · omega
    · exact absurd i3 (h4 r hgt)
theorem DFound.uniq {L : List Fld} {n v : ByteArray} {p p' : Nat} {x x' : Bool} (h : DFound L n v p x) (h' : DFound L n v p' x') : p = p' ∧ x = x' := by
  rcases h with ⟨rfl, k, hk, rfl, h1, h2, h3⟩ | ⟨rfl, h1, h2⟩ <;> rcases h' with ⟨rfl, j, hj, rfl, i1, i2, i3⟩ | ⟨rfl, i1, i2⟩
  · refine ⟨?_, rfl⟩
    rcases Nat.lt_trichotomy k j with hlt | heq | hgt
    · exact absurd ⟨h1, h2⟩ (i3 k hlt)
    · omega
    · exact absurd ⟨i1, i2⟩ (h3 j hgt)
  · exact absurd ⟨h1, h2⟩ (i1 k hk)
  · exact absurd ⟨i1, i2⟩ (h1 j hj)
  · exact ⟨h2.uniq i2, rfl⟩
theorem stN_ne_a : ∀ k, k < 61 → stN k ≠ ba 97 := by
  have h : ∀ k, k < 61 → (stN k).data.toList ≠ [97] := by decide +kernel
  exact fun k hk e => h k hk (by rw [e]; rfl)
theorem found_1 : DFound [fC, fA] (ba 97) (ba 98) 63 true := by
  refine .inl ⟨rfl, 62, by decide, rfl, rfl, rfl, fun j hj => ?_⟩
  rintro ⟨h1, _⟩
  by_cases hj1 : j < 61
  · rw [gOf_st hj1] at h1
    exact stN_ne_a j hj1 h1
  · obtain rfl : j = 61 := by omega
    exact absurd (congrArg (fun b => b.data.toList) h1) (by decide)
theorem found_2 : DFound [fE, fC] (ba 97) (ba 98) 0 false := by
  have hno : ∀ j, j < 63 → (gOf [fE, fC] j).name ≠ ba 97 := fun j hj h1 => by
    by_cases hj1 : j < 61
    · rw [gOf_st hj1] at h1
      exact stN_ne_a j hj1 h1
    · rcases (show j = 61 ∨ j = 62 from by omega) with rfl | rfl
      · exact absurd (congrArg (fun b => b.data.toList) h1) (by decide)
      · exact absurd (congrArg (fun b => b.data.toList) h1) (by decide)
  exact .inr ⟨rfl, fun j hj h => hno j hj h.1, .inl ⟨rfl, hno⟩⟩
end Go.Proofs.Yteceinojmdgmeaa


/- Closed facts for footmanlaw07.awake. -/
namespace Go.Proofs.Yteceinojmdgmeaa
open Go.RowKit
set_option linter.unusedVariables false
set_option linter.unusedSimpArgs false

abbrev sMet : ByteArray := ⟨#[58, 109, 101, 116, 104, 111, 100]⟩
abbrev sGet : ByteArray := ⟨#[71, 69, 84]⟩
abbrev sA : ByteArray := ⟨#[97]⟩
abbrev sB : ByteArray := ⟨#[98]⟩
abbrev sC : ByteArray := ⟨#[99]⟩
abbrev fAB : Fld := ⟨sA, sB, false⟩
abbrev T7 : List Fld := [fAB]
theorem df_get : DFound [] sMet sGet 2 true :=
  .inl ⟨rfl, 1, by decide, rfl, by decide +kernel, by decide +kernel, by unfold NoExG; decide +kernel⟩
theorem df_ab0 : DFound [] sA sB 0 false :=
  .inr ⟨rfl, by unfold NoExG; decide +kernel, .inl ⟨rfl, by decide +kernel⟩⟩
theorem df_ab1 : DFound T7 sA sB 62 true :=
  .inl ⟨rfl, 61, by decide, rfl, by decide +kernel, by decide +kernel, by unfold NoExG; decide +kernel⟩
theorem df_ac1 : DFound T7 sA sC 62 false :=
  .inr ⟨rfl, by unfold NoExG; decide +kernel, .inr ⟨61, by decide, rfl, by decide +kernel, by decide +kernel⟩⟩
abbrev F4 : List Fld := [⟨sMet, sGet, false⟩, ⟨sA, sB, false⟩, ⟨sA, sB, false⟩, ⟨sA, sC, true⟩]
abbrev I4 : List Itm := [⟨0, 2, ⟨#[]⟩, ⟨#[]⟩⟩, ⟨1, 0, sA, sB⟩, ⟨0, 62, ⟨#[]⟩, ⟨#[]⟩⟩, ⟨3, 62, ⟨#[]⟩, sC⟩]
theorem run_4 {T2 : List Fld} {O : List Itm} (h : ERun 4096 [] F4 T2 O) : T2 = T7 ∧ O = I4 := by
  obtain ⟨p1, x1, O1, d1, rfl, h⟩ := h
  obtain ⟨rfl, rfl⟩ := d1.uniq df_get
  rw [if_neg (by decide +kernel)] at h
  obtain ⟨p2, x2, O2, d2, rfl, h⟩ := h
  obtain ⟨rfl, rfl⟩ := d2.uniq df_ab0
  rw [if_pos (by decide +kernel), show addL 4096 [] ⟨sA, sB, false⟩ = T7 from by kernel_rfl] at h
  obtain ⟨p3, x3, O3, d3, rfl, h⟩ := h
  obtain ⟨rfl, rfl⟩ := d3.uniq df_ab1
  rw [if_neg (by decide +kernel)] at h
  obtain ⟨p4, x4, O4, d4, rfl, h⟩ := h
  obtain ⟨rfl, rfl⟩ := d4.uniq df_ac1
  rw [if_neg (by decide +kernel)] at h
  obtain ⟨rfl, rfl⟩ := h
  exact ⟨rfl, by kernel_rfl⟩
theorem run_1 {T2 : List Fld} {O : List Itm} (h : ERun 100 T7 [⟨sA, sB, false⟩] T2 O) : T2 = T7 ∧ O = [⟨0, 62, ⟨#[]⟩, ⟨#[]⟩⟩] := by
  obtain ⟨p1, x1, O1, d1, rfl, h⟩ := h
  obtain ⟨rfl, rfl⟩ := d1.uniq df_ab1
  rw [if_neg (by decide +kernel)] at h
  obtain ⟨rfl, rfl⟩ := h
  exact ⟨rfl, by kernel_rfl⟩
theorem echk_new : echk 4096 4096 4096 [] = 0 := by decide +kernel
theorem long_4 : F4.any longF = false := by decide +kernel
theorem rz_new : rzO 4096 4096 (rzO 4096 4096 []) = [] ∧ rzL 4096 4096 (rzL 4096 4096 []) = [] := ⟨by kernel_rfl, by kernel_rfl⟩
theorem lim_100 : limE 4096 4096 4096 100 T7 = 0 ∧ limLe 4096 4096 4096 100 T7 = 100 ∧ limLa 4096 4096 4096 100 T7 = 100 := by decide +kernel
theorem lim_no : limE 4096 4096 4096 (-1) T7 = 8 := by decide +kernel
theorem echk_100 : echk 4096 100 100 T7 = 0 := by decide +kernel
theorem long_1 : [fAB].any longF = false := by decide +kernel
theorem rz_100 : rzO 100 100 (rzO 4096 100 []) = [⟨4, 100, ⟨#[]⟩, ⟨#[]⟩⟩] ∧ rzL 100 100 (rzL 4096 100 T7) = T7 := ⟨by kernel_rfl, by kernel_rfl⟩
theorem cat_100 : catI [⟨4, 100, ⟨#[]⟩, ⟨#[]⟩⟩, ⟨0, 62, ⟨#[]⟩, ⟨#[]⟩⟩] = [63, 69, 190] := by decide +kernel
theorem echk_z : echk 100 100 100 T7 = 0 := by decide +kernel
end Go.Proofs.Yteceinojmdgmeaa


/- footmanlaw07.awake: the calls that it makes. -/
namespace Go.Proofs.Yteceinojmdgmeaa
open Go.RowKit
set_option linter.unusedVariables false
set_option linter.unusedSimpArgs false

theorem light_T7 : ∀ f ∈ T7, lightF f = true := fun f hf => by obtain rfl := List.mem_singleton.1 hf; decide +kernel
theorem light_F4 : ∀ f ∈ F4, lightF f = true := fun f hf => by
  have h : F4.all lightF = true := by decide +kernel
  exact List.all_eq_true.1 h f hf
theorem it_1 (W : World) (ob : Option Addr) (h : FieldsN W ob F4) : Calls Try.prog 36 #[.agg #[.int .i64 4096, .slice none 0 0, .int .i64 4096, .int .i64 4096], .slice ob 4 4] W fun e w' =>
    ∃ o2 c2 oi ci, e = .returned (.tuple #[.agg #[.int .i64 4096, .slice o2 1 c2, .int .i64 4096, .int .i64 4096], .slice oi 4 ci, .int .i64 0]) ∧ FieldsN w' o2 T7 ∧ ItemsN w' oi I4 ∧ 1 ≤ c2 ∧ 4 ≤ ci ∧ Below W.heap.size W w' :=
  (eitems_any 4096 4096 4096 none 0 0 [] rfl (Nat.le_refl _) (fun f hf => by cases hf) (by omega) ob 4 4 F4 rfl light_F4 (by omega) W (FieldsN.nil _ _) h).mono (by
    rintro e w' (⟨h1, _⟩ | ⟨_, h1, _⟩ | ⟨_, _, o2, n2, c2, T2, ov, O1, rfl, her, hoi, hft, hln, hcp, _, hb⟩)
    · exact absurd echk_new h1
    · rw [long_4] at h1; cases h1
    · rw [rz_new.1] at hoi
      rw [rz_new.2] at her
      obtain ⟨rfl, rfl⟩ := run_4 her
      obtain ⟨oi, ci, rfl, hit, hci, _, _⟩ := hoi.form
      obtain rfl : 1 = n2 := hln
      exact ⟨o2, c2, oi, ci, rfl, hft, hit, hcp, hci, hb⟩)
theorem li_1 (W : World) (oa : Option Addr) (c : Nat) (h : FieldsN W oa T7) : Calls Try.prog 32 #[.agg #[.int .i64 4096, .slice oa 1 c, .int .i64 4096, .int .i64 4096], .int .i64 100] W fun e w' =>
    e = .returned (.tuple #[.agg #[.int .i64 4096, .slice oa 1 c, .int .i64 100, .int .i64 100], .int .i64 0]) ∧ Below W.heap.size W w' :=
  (elimit_any 4096 4096 4096 oa 1 c T7 rfl light_T7 (by omega) 100 W h).mono (by
    rintro e w' ⟨rfl, hb⟩
    rw [lim_100.1, lim_100.2.1, lim_100.2.2]
    exact ⟨rfl, hb⟩)
theorem li_2 (W : World) (oa : Option Addr) (c : Nat) (h : FieldsN W oa T7) : Calls Try.prog 32 #[.agg #[.int .i64 4096, .slice oa 1 c, .int .i64 4096, .int .i64 4096], .int .i64 (-1)] W fun e w' =>
    e = .returned (.tuple #[.agg #[.int .i64 4096, .slice oa 1 c, .int .i64 4096, .int .i64 4096], .int .i64 8]) ∧ Below W.heap.size W w' :=
  (elimit_any 4096 4096 4096 oa 1 c T7 rfl light_T7 (by omega) (-1) W h).mono (by
    rintro e w' ⟨rfl, hb⟩
    unfold limLe limLa
    rw [lim_no, if_pos (by decide), if_pos (by decide)]
    exact ⟨rfl, hb⟩)
theorem bl_1 (W : World) (oa ob : Option Addr) (c : Nat) (hc : 1 ≤ c) (h : FieldsN W oa T7) (h2 : FieldsN W ob [fAB]) : Calls Try.prog 9 #[.agg #[.int .i64 4096, .slice oa 1 c, .int .i64 100, .int .i64 100], .slice ob 1 1] W fun e w' =>
    ∃ o3 c3 o4 c4, e = .returned (.tuple #[.agg #[.int .i64 100, .slice o3 1 c3, .int .i64 100, .int .i64 100], .slice o4 3 c4, .int .i64 0]) ∧ FieldsN w' o3 T7 ∧ BytesN w' o4 [63, 69, 190] ∧ Below W.heap.size W w' :=
  (eblock_any 4096 100 100 oa 1 c T7 rfl hc light_T7 (by omega) ob 1 1 [fAB] rfl light_T7 (by omega) W h h2).mono (by
    rintro e w' (⟨h1, _⟩ | ⟨_, h1, _⟩ | ⟨_, _, T2, O1, her, _, hx⟩)
    · exact absurd echk_100 h1
    · rw [long_1] at h1; cases h1
    · rw [rz_100.2] at her
      obtain ⟨rfl, rfl⟩ := run_1 her
      rw [rz_100.1] at hx
      rw [show [⟨4, 100, ⟨#[]⟩, ⟨#[]⟩⟩] ++ [(⟨0, 62, ⟨#[]⟩, ⟨#[]⟩⟩ : Itm)] = [⟨4, 100, ⟨#[]⟩, ⟨#[]⟩⟩, ⟨0, 62, ⟨#[]⟩, ⟨#[]⟩⟩] from rfl, cat_100] at hx
      rcases hx with ⟨h1, _⟩ | ⟨_, o2, n2, c2, bv, rfl, hob, hft, hln, _, hb⟩
      · simp at h1
      · obtain ⟨o4, c4, rfl, hby, _, _, _⟩ := hob.form3
        obtain rfl : 1 = n2 := hln
        exact ⟨o2, c2, o4, c4, rfl, hft, hby, hb⟩)
theorem ck_1 (W : World) (oa : Option Addr) (c : Nat) (h : FieldsN W oa T7) : Calls Try.prog 35 #[.agg #[.int .i64 100, .slice oa 1 c, .int .i64 100, .int .i64 100]] W fun e w' => e = .returned (.int .i64 0) ∧ Below W.heap.size W w' :=
  (echeck_any 100 100 100 oa 1 c T7 rfl light_T7 (by omega) W h).mono (by rintro e w' ⟨rfl, hb⟩; exact ⟨by rw [echk_z], hb⟩)
theorem sa_1 (W : World) : Calls Try.prog 10 #[.agg #[.int .i64 4096, .slice none 0 0, .int .i64 4096, .int .i64 4096], .agg #[.int .i64 4096, .slice none 0 0, .int .i64 4096, .int .i64 4096]] W fun e w' => e = .returned (.bool true) ∧ Below W.heap.size W w' :=
  (esame_any 4096 4096 4096 4096 4096 4096 none none 0 0 0 0 [] [] rfl rfl (by omega) (by omega) W (FieldsN.nil _ _) (FieldsN.nil _ _)).mono (by rintro e w' ⟨rfl, hb⟩; exact ⟨rfl, hb⟩)
theorem sa_2 (W : World) (oa : Option Addr) (c : Nat) (h : FieldsN W oa T7) : Calls Try.prog 10 #[.agg #[.int .i64 4096, .slice none 0 0, .int .i64 4096, .int .i64 4096], .agg #[.int .i64 4096, .slice oa 1 c, .int .i64 4096, .int .i64 4096]] W fun e w' => e = .returned (.bool false) ∧ Below W.heap.size W w' :=
  (esame_any 4096 4096 4096 4096 4096 4096 none oa 0 1 0 c [] T7 rfl rfl (by omega) (by omega) W (FieldsN.nil _ _) h).mono (by rintro e w' ⟨rfl, hb⟩; exact ⟨rfl, hb⟩)
/-- A list of fields that is written out. -/
theorem fields_row (W : World) (L : List Fld) (fr : Nat × Nat) : FieldsN (W.alloc (.cells (fcells L).toArray 25 fr)) (some ⟨W.heap.size, 0, none⟩) L := fun i f hf => by
  have h := fcells_get L i f hf
  refine ⟨W.heap.size, 0, rfl, ?_, ?_, ?_⟩
  · rw [cell_of_row _ _ _ _ _ _ (heap_alloc_new W _)]; simpa using h.1
  · rw [cell_of_row _ _ _ _ _ _ (heap_alloc_new W _)]; simpa using h.2.1
  · rw [cell_of_row _ _ _ _ _ _ (heap_alloc_new W _)]; simpa using h.2.2
end Go.Proofs.Yteceinojmdgmeaa


/- footmanlaw07.awake: the walk. -/
namespace Go.Proofs.Yteceinojmdgmeaa
open Go.RowKit
set_option linter.unusedVariables false
set_option linter.unusedSimpArgs false

/-- What is kept. -/
structure Aw7 (w : World) (q1 q2 q7 : Nat) (o2 : Option Addr) (c2 : Nat) (o3 : Option Addr) (c3 : Nat) (b o : Nat) (o4 : Option Addr) (W : World) : Prop where
  h1 : ERow W q1 4096 (.slice none 0 0) 4096 4096
  h2 : ERow W q2 4096 (.slice o2 1 c2) 4096 4096
  h7 : ERow W q7 100 (.slice o3 1 c3) 100 100
  ft : FieldsN W o2 T7
  f3 : FieldsN W o3 T7
  it : ItemsN W (some ⟨b, o, none⟩) I4
  bt : BytesN W o4 [63, 69, 190]
  below : Below w.heap.size w W
theorem Aw7.step {w W W' : World} {q1 q2 q7 c2 c3 b o : Nat} {o2 o3 o4 : Option Addr} (h : Aw7 w q1 q2 q7 o2 c2 o3 c3 b o o4 W) (hb : Below W.heap.size W W') : Aw7 w q1 q2 q7 o2 c2 o3 c3 b o o4 W' :=
  ⟨h.h1.step hb, h.h2.step hb, h.h7.step hb, h.ft.below hb, h.f3.below hb, h.it.below hb, h.bt.below hb, bs_hd h.below hb⟩
theorem Aw7.cells {w W : World} {q1 q2 q7 c2 c3 b o : Nat} {o2 o3 o4 : Option Addr} (h : Aw7 w q1 q2 q7 o2 c2 o3 c3 b o o4 W) :
    (W.cell? ⟨b, o, none⟩ = some (.int .u8 0) ∧ W.cell? ⟨b, o + 1, none⟩ = some (.int .i64 2) ∧ W.cell? ⟨b, o + 2, none⟩ = some (.string ⟨#[]⟩) ∧ W.cell? ⟨b, o + 3, none⟩ = some (.string ⟨#[]⟩)) ∧
    (W.cell? ⟨b, o + 4, none⟩ = some (.int .u8 1) ∧ W.cell? ⟨b, o + 4 + 1, none⟩ = some (.int .i64 0) ∧ W.cell? ⟨b, o + 4 + 2, none⟩ = some (.string ⟨#[97]⟩) ∧ W.cell? ⟨b, o + 4 + 3, none⟩ = some (.string ⟨#[98]⟩)) ∧
    (W.cell? ⟨b, o + 8, none⟩ = some (.int .u8 0) ∧ W.cell? ⟨b, o + 8 + 1, none⟩ = some (.int .i64 62) ∧ W.cell? ⟨b, o + 8 + 2, none⟩ = some (.string ⟨#[]⟩) ∧ W.cell? ⟨b, o + 8 + 3, none⟩ = some (.string ⟨#[]⟩)) ∧
    (W.cell? ⟨b, o + 12, none⟩ = some (.int .u8 3) ∧ W.cell? ⟨b, o + 12 + 1, none⟩ = some (.int .i64 62) ∧ W.cell? ⟨b, o + 12 + 2, none⟩ = some (.string ⟨#[]⟩) ∧ W.cell? ⟨b, o + 12 + 3, none⟩ = some (.string ⟨#[99]⟩)) := by
  have k : ∀ i x, I4[i]? = some x → W.cell? ⟨b, o + i * 4, none⟩ = some (.int .u8 (x.kind : Int)) ∧ W.cell? ⟨b, o + i * 4 + 1, none⟩ = some (.int .i64 x.index) ∧ W.cell? ⟨b, o + i * 4 + 2, none⟩ = some (.string x.name) ∧ W.cell? ⟨b, o + i * 4 + 3, none⟩ = some (.string x.value) := fun i x hx => by
    obtain ⟨b', o', e, h0⟩ := h.it i x hx
    injection e with e; injection e with e1 e2 _
    subst e1; subst e2
    exact h0
  exact ⟨k 0 _ rfl, k 1 _ rfl, k 2 _ rfl, k 3 _ rfl⟩
set_option maxRecDepth 100000 in
set_option maxHeartbeats 8000000 in
theorem awake07_any (w : World) : Calls Try.prog 11 #[] w fun e w' => e = .returned (.bool true) ∧ Below w.heap.size w w' := by
  have HNW := Lib.hid (fun W => enew_any W)
  go_enter Try.func11, Try.ntmps11
  go_upto_region 2 with (first | (go_at_call 8; refine (HNW.out _).mono ?_; rintro e w1 ⟨rfl, hb⟩; have HB := Lib.hid hb; clear hb))
  have H1 := Lib.hid (ERow.new w1 4096 4096 4096 (.slice none 0 0))
  replace HB := Lib.hid (bs_hd HB.out (below_new (W := w1) (.cells #[.int .i64 4096, .slice none 0 0, .int .i64 4096, .int .i64 4096] 30)))
  generalize w1.alloc (.cells #[.int .i64 4096, .slice none 0 0, .int .i64 4096, .int .i64 4096] 30) = w2 at H1 HB ⊢
  generalize w1.heap.size = q1 at H1 ⊢
  have a0 := H1.out.c0
  have a1 := H1.out.c1
  have a2 := H1.out.c2
  have a3 := H1.out.c3
  have HF4 := Lib.hid (show FieldsN (w2.alloc (.cells #[.string sMet, .string sGet, .bool false, .string sA, .string sB, .bool false, .string sA, .string sB, .bool false, .string sA, .string sC, .bool true] 25)) (some ⟨w2.heap.size, 0, none⟩) F4 from fields_row w2 F4 (0, 0))
  go_upto_region 3 with (first | (go_at_call 36; refine (it_1 _ _ HF4.out).mono ?_; rintro e w3 ⟨o2, c2, oi, ci, rfl, hft, hit, hc2, hci, hb⟩; have HV := Lib.hid (And.intro hft (And.intro hit (And.intro hc2 (And.intro hci hb)))); clear hft hit hc2 hci hb))
  clear a0 a1 a2 a3
  have HB2 := Lib.hid (show Below w2.heap.size w2 (w3.alloc (.cells #[.int .i64 4096, .slice o2 1 c2, .int .i64 4096, .int .i64 4096] 30)) from bs_hd (bs_hd (below_new _) HV.out.2.2.2.2) (below_new _))
  have H2 := Lib.hid (ERow.new w3 4096 4096 4096 (.slice o2 1 c2))
  have HT := Lib.hid (HV.out.1.below (below_new (W := w3) (.cells #[.int .i64 4096, .slice o2 1 c2, .int .i64 4096, .int .i64 4096] 30)))
  have HI := Lib.hid (HV.out.2.1.below (below_new (W := w3) (.cells #[.int .i64 4096, .slice o2 1 c2, .int .i64 4096, .int .i64 4096] 30)))
  have HC2 := Lib.hid HV.out.2.2.1
  have HCI := Lib.hid HV.out.2.2.2.1
  replace H1 := Lib.hid (H1.out.step HB2.out)
  replace HB := Lib.hid (bs_hd HB.out HB2.out)
  clear HV HB2 HF4
  generalize w3.alloc (.cells #[.int .i64 4096, .slice o2 1 c2, .int .i64 4096, .int .i64 4096] 30) = w4 at H1 H2 HT HI HB ⊢
  generalize w3.heap.size = q2 at H2 ⊢
  have a0 := H2.out.c0
  have a1 := H2.out.c1
  have a2 := H2.out.c2
  have a3 := H2.out.c3
  go_upto_region 4 with (first | (go_at_call 32; refine (li_1 _ _ _ HT.out).mono ?_; rintro e w5 ⟨rfl, hb⟩; have HB5 := Lib.hid (bs_hd hb (below_new (.cells #[.int .i64 4096, .slice o2 1 c2, .int .i64 100, .int .i64 100] 30))); clear hb))
  clear a0 a1 a2 a3
  have H5 := Lib.hid (ERow.new w5 4096 100 100 (.slice o2 1 c2))
  replace H1 := Lib.hid (H1.out.step HB5.out)
  replace H2 := Lib.hid (H2.out.step HB5.out)
  replace HT := Lib.hid (HT.out.below HB5.out)
  replace HI := Lib.hid (HI.out.below HB5.out)
  replace HB := Lib.hid (bs_hd HB.out HB5.out)
  clear HB5
  generalize w5.alloc (.cells #[.int .i64 4096, .slice o2 1 c2, .int .i64 100, .int .i64 100] 30) = w6 at H1 H2 H5 HT HI HB ⊢
  generalize w5.heap.size = q5 at H5 ⊢
  have a0 := H5.out.c0
  have a1 := H5.out.c1
  have a2 := H5.out.c2
  have a3 := H5.out.c3
  have HF1 := Lib.hid (show FieldsN (w6.alloc (.cells #[.string sA, .string sB, .bool false] 25)) (some ⟨w6.heap.size, 0, none⟩) [fAB] from fields_row w6 [fAB] (0, 0))
  have HT6 := Lib.hid (HT.out.below (below_new (W := w6) (.cells #[.string sA, .string sB, .bool false] 25)))
  go_upto_region 5 with (first | (go_at_call 9; refine (bl_1 _ _ _ _ HC2.out HT6.out HF1.out).mono ?_; rintro e w7 ⟨o3, c3, o4, c4, rfl, hft, hby, hb⟩; have HV := Lib.hid (And.intro hft (And.intro hby hb)); clear hft hby hb))
  clear a0 a1 a2 a3
  have HB2 := Lib.hid (show Below w6.heap.size w6 (w7.alloc (.cells #[.int .i64 100, .slice o3 1 c3, .int .i64 100, .int .i64 100] 30)) from bs_hd (bs_hd (below_new _) HV.out.2.2) (below_new _))
  have H7 := Lib.hid (ERow.new w7 100 100 100 (.slice o3 1 c3))
  have HT3 := Lib.hid (HV.out.1.below (below_new (W := w7) (.cells #[.int .i64 100, .slice o3 1 c3, .int .i64 100, .int .i64 100] 30)))
  have HBY := Lib.hid (HV.out.2.1.below (below_new (W := w7) (.cells #[.int .i64 100, .slice o3 1 c3, .int .i64 100, .int .i64 100] 30)))
  replace H1 := Lib.hid (H1.out.step HB2.out)
  replace H2 := Lib.hid (H2.out.step HB2.out)
  replace HT := Lib.hid (HT.out.below HB2.out)
  replace HI := Lib.hid (HI.out.below HB2.out)
  replace HB := Lib.hid (bs_hd HB.out HB2.out)
  clear HV HB2 HF1 HT6 H5
  generalize w7.alloc (.cells #[.int .i64 100, .slice o3 1 c3, .int .i64 100, .int .i64 100] 30) = w8 at H1 H2 H7 HT HT3 HI HBY HB ⊢
  generalize w7.heap.size = q7 at H7 ⊢
  have a0 := H2.out.c0
  have a1 := H2.out.c1
  have a2 := H2.out.c2
  have a3 := H2.out.c3
  go_upto_region 6 with (first | (go_at_call 32; refine (li_2 _ _ _ HT.out).mono ?_; rintro e w9 ⟨rfl, hb⟩; have HB9 := Lib.hid (bs_hd hb (below_new (.cells #[.int .i64 4096, .slice o2 1 c2, .int .i64 4096, .int .i64 4096] 30))); clear hb))
  clear a0 a1 a2 a3
  obtain ⟨b, o, hoi, _⟩ := HI.out 0 _ rfl
  subst hoi
  have HA := Lib.hid (show Aw7 w q1 q2 q7 o2 c2 o3 c3 b o o4 w8 from ⟨H1.out, H2.out, H7.out, HT.out, HT3.out, HI.out, HBY.out, HB.out⟩)
  replace HA := Lib.hid (HA.out.step HB9.out)
  clear H1 H2 H7 HT HT3 HI HBY HB HB9 HC2
  generalize w9.alloc (.cells #[.int .i64 4096, .slice o2 1 c2, .int .i64 4096, .int .i64 4096] 30) = w10 at HA ⊢
  have ci4 : (4 : Int) ≤ (ci : Int) := by have := HCI.out; omega
  have HBS := Lib.hid (show bsB [63, 69, 190] = ⟨#[63, 69, 190]⟩ from by kernel_rfl)
  try simp only [List.append]
  refine class_region (C := Aw7 w q1 q2 q7 o2 c2 o3 c3 b o o4) (by kernel_rfl) (by kernel_rfl) (HA.out.step ((Below.refl _ _).drew)) ?_
  clear HA
  repeat
    first
      | (with_reducible refine q_plainE rfl rfl ?_)
      | (with_reducible refine q_yesE 42 rfl (by kernel_rfl) (by kernel_rfl) rfl ?_)
    apply Exists.intro
    with_reducible refine ⟨?_, ?_⟩
    · intro W hW
      unfold QAt
      first
        | (go_simp; done)
        | (go_simp; with_reducible rfl)
        | (have a0 := hW.h1.c0
           have a1 := hW.h1.c1
           have a2 := hW.h1.c2
           have a3 := hW.h1.c3
           have b0 := hW.h2.c0
           have b1 := hW.h2.c1
           have b2 := hW.h2.c2
           have b3 := hW.h2.c3
           have d0 := hW.h7.c0
           have d1 := hW.h7.c1
           have d2 := hW.h7.c2
           have d3 := hW.h7.c3
           obtain ⟨⟨i0, i1, i2, i3⟩, ⟨j0, j1, j2, j3⟩, ⟨k0, k1, k2, k3⟩, ⟨m0, m1, m2, m3⟩⟩ := hW.cells
           have hcv := conv_bytes W o4 3 c4 [63, 69, 190] rfl hW.bt (by decide)
           rw [HBS.out] at hcv
           first | (go_simp; done) | go_simp
           first
             | done
             | (with_reducible rfl)
             | (go_at_call 8; refine (HNW.out _).mono ?_; rintro e w11 ⟨rfl, hb⟩; exact ⟨rfl, hW.step hb⟩)
             | (go_at_call 10; with_reducible refine (sa_1 _).mono ?_; rintro e w11 ⟨rfl, hb⟩; exact ⟨rfl, hW.step hb⟩)
             | (go_at_call 10; with_reducible refine (sa_2 _ _ _ hW.ft).mono ?_; rintro e w11 ⟨rfl, hb⟩; exact ⟨rfl, hW.step hb⟩)
             | (go_at_call 35; with_reducible refine (ck_1 _ _ _ hW.f3).mono ?_; rintro e w11 ⟨rfl, hb⟩; exact ⟨rfl, hW.step hb⟩))
    apply Exists.intro
    with_reducible refine ⟨?_, ?_⟩
    · simp only [Act.put, List.setIfInBounds_toArray, List.set_cons_zero, List.set_cons_succ]
      exact isAct_rfl _
  with_reducible refine qrest_nil ?_
  intro w' hw'
  go_wp2_with fail
  go_ret
  exact ⟨rfl, hw'.below⟩
end Go.Proofs.Yteceinojmdgmeaa

