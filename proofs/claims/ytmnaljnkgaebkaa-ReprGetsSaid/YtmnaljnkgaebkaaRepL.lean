/- footmanlaw05.awake: its calls. -/
import Derived.Test.YtmnaljnkgaebkaaRepM
namespace Go.Proofs.Ytmnaljnkgaebkaa
open Go.RowKit
set_option linter.unusedVariables false
set_option linter.unusedSimpArgs false

theorem OwnB.form {w : World} {B : Nat} {v : Value} {l : List Nat} (h : OwnB w B v l) (h0 : 0 < l.length) : ∃ g cap, v = .slice (some ⟨g, 0, none⟩) l.length cap ∧ BytesN w (some ⟨g, 0, none⟩) l ∧ l.length ≤ cap ∧ cap ≤ maxLen ∧ B ≤ g ∧ g < w.heap.size := by
  have h' : w.ownsRow B 5 1 v l.length (l.map fun n : Nat => Value.int .u8 (n : Int)) := h
  rcases h'.2 with ⟨_, h1⟩ | ⟨g, cap, cur, rfl, hb, hg, h1, h2, _⟩
  · omega
  · refine ⟨g, cap, rfl, fun i hi => ⟨_, rfl, ?_⟩, h1, h2, hb, (h'.lt g rfl).2⟩
    have := World.ownsRow.cells h' (g := g) rfl i (.int .u8 ((l.getD i 0 : Nat) : Int)) (by simp [List.getElem?_eq_getElem hi])
    simpa using this
def wwwS : ByteArray := ⟨#[119, 119, 119, 46, 101, 120, 97, 109, 112, 108, 101, 46, 99, 111, 109]⟩
def E14 : List Nat := [65, 140, 241, 227, 194, 229, 242, 58, 107, 160, 171, 144, 244, 255]
def X14 : Itm := ⟨1, 1, ⟨#[]⟩, wwwS⟩
def X2 : Itm := ⟨0, 2, ⟨#[]⟩, ⟨#[]⟩⟩
set_option maxRecDepth 100000 in
theorem w14_chk : chkI X14 = 0 := by decide +kernel
set_option maxRecDepth 100000 in
theorem w14_item : itemN X14 = E14 := by decide +kernel
set_option maxRecDepth 100000 in
theorem w15_get : itemG (E14 ++ [1]) = (X14, 14, 0) := by kernel_rfl
set_option maxRecDepth 100000 in
theorem w15_all : allG (E14 ++ [130]) = ([X14, X2], 0) := by kernel_rfl
theorem w80_get : itemG [128] = (Itm.zero, 0, 4) := by kernel_rfl
theorem w5_chk : chkI ⟨5, 0, ⟨#[]⟩, ⟨#[]⟩⟩ = 11 := by decide +kernel
theorem w3_text : textG [2, 97, 98, 99] = (⟨#[97, 98]⟩, 3, 0) := by kernel_rfl
set_option maxRecDepth 100000 in
theorem w0_text : textN ⟨#[0]⟩ = ([1, 0] : List UInt8).map UInt8.toNat := by decide +kernel
/-- What a slice of bytes of its own needs to be got from. -/
def HasB (w : World) (B : Nat) (l : List Nat) (g cap : Nat) : Prop := OwnB w B (.slice (some ⟨g, 0, none⟩) l.length cap) l ∧ BytesN w (some ⟨g, 0, none⟩) l ∧ l.length ≤ cap ∧ B ≤ g ∧ g < w.heap.size
theorem OwnB.has {w : World} {B : Nat} {v : Value} {l : List Nat} (h : OwnB w B v l) (h0 : 0 < l.length) : ∃ g cap, v = .slice (some ⟨g, 0, none⟩) l.length cap ∧ HasB w B l g cap := by
  obtain ⟨g, cap, rfl, h1, h2, h3, h4, h5⟩ := h.form h0
  exact ⟨g, cap, rfl, h, h1, h2, h4, h5⟩
theorem HasB.step {w w' : World} {B : Nat} {l : List Nat} {g cap : Nat} (h : HasB w B l g cap) (hb : Below w.heap.size w w') : HasB w' B l g cap :=
  ⟨owns_below h.1 hb, h.2.1.below hb, h.2.2.1, h.2.2.2.1, Nat.lt_of_lt_of_le h.2.2.2.2 hb.size⟩
theorem OwnB.has14 {w : World} {B g cap : Nat} (h : w.ownsRow B 5 1 (.slice (some ⟨g, 0, none⟩) 14 cap) 14 (E14.map fun n : Nat => Value.int .u8 (n : Int))) : HasB w B E14 g cap := by
  obtain ⟨g', cap', e, hh⟩ := OwnB.has (show OwnB w B _ E14 from h) (by decide)
  obtain ⟨e1, _, rfl⟩ := Value.slice.inj e
  obtain ⟨rfl, _, _⟩ := Addr.mk.inj (Option.some.inj e1)
  exact hh
theorem OwnB.has15 {w : World} {B c : Nat} {v : Value} (h : w.ownsRow B 5 1 v (14 + 1) ((E14.map fun n : Nat => Value.int .u8 (n : Int)) ++ [Value.int .u8 (c : Int)])) : ∃ g cap, v = .slice (some ⟨g, 0, none⟩) 15 cap ∧ HasB w B (E14 ++ [c]) g cap :=
  OwnB.has (ownB_app (a := E14) (b := [c]) h) (Nat.succ_pos _)
def WWW : Value := .string ⟨#[119, 119, 119, 46, 101, 120, 97, 109, 112, 108, 101, 46, 99, 111, 109]⟩
theorem put_14 (w : World) : Calls Try.prog 43 #[.agg #[.int .u8 1, .int .i64 1, .string ⟨#[]⟩, .string ⟨#[119, 119, 119, 46, 101, 120, 97, 109, 112, 108, 101, 46, 99, 111, 109]⟩]] w fun e w' => ∃ g cap, e = .returned (.tuple #[.slice (some ⟨g, 0, none⟩) 14 cap, .int .i64 0]) ∧ HasB w' w.heap.size E14 g cap ∧ Below w.heap.size w w' :=
  (rput_any 1 1 ⟨#[]⟩ wwwS (by omega) w).mono (by
    rintro e w' (⟨h, _⟩ | ⟨_, v, rfl, ho, hb⟩)
    · exact absurd w14_chk h
    · obtain ⟨g, cap, rfl, h⟩ := OwnB.has (w14_item ▸ ho) (by decide)
      exact ⟨g, cap, rfl, h, hb⟩)
theorem get_15 (w : World) (B g cap : Nat) (h : HasB w B (E14 ++ [1]) g cap) : Calls Try.prog 49 #[.slice (some ⟨g, 0, none⟩) 15 cap] w fun e w' => e = .returned (.tuple #[.agg #[.int .u8 1, .int .i64 1, .string ⟨#[]⟩, .string ⟨#[119, 119, 119, 46, 101, 120, 97, 109, 112, 108, 101, 46, 99, 111, 109]⟩], .int .i64 14, .int .i64 0]) ∧ Below w.heap.size w w' :=
  (rget_any (some ⟨g, 0, none⟩) 15 cap (E14 ++ [1]) rfl h.2.2.1 (by omega) w h.2.1 (by decide)).mono (by
    rintro e w' ⟨rfl, hb⟩
    rw [w15_get]
    exact ⟨rfl, hb⟩)
theorem all_15 (w : World) (B g cap : Nat) (h : HasB w B (E14 ++ [130]) g cap) : Calls Try.prog 53 #[.slice (some ⟨g, 0, none⟩) 15 cap] w fun e w' => ∃ b o cp, e = .returned (.tuple #[.slice (some ⟨b, o, none⟩) 2 cp, .int .i64 0]) ∧ (w'.cell? ⟨b, o + 4, none⟩ = some (.int .u8 0) ∧ w'.cell? ⟨b, o + 5, none⟩ = some (.int .i64 2) ∧ w'.cell? ⟨b, o + 6, none⟩ = some (.string ⟨#[]⟩) ∧ w'.cell? ⟨b, o + 7, none⟩ = some (.string ⟨#[]⟩)) ∧ b < w'.heap.size ∧ Below w.heap.size w w' :=
  (all_any (some ⟨g, 0, none⟩) 15 cap (E14 ++ [130]) rfl h.2.2.1 (by omega) w h.2.1 (by decide)).mono (by
    rintro e w' ⟨v, rfl, ho, hb⟩
    rw [w15_all] at ho ⊢
    obtain ⟨oa, cp, rfl, hi, _, _, hl⟩ := ho.form
    obtain ⟨b, o, rfl, h1, h2, h3, h4⟩ := hi 1 X2 rfl
    exact ⟨b, o, cp, rfl, ⟨h1, h2, h3, h4⟩, (hl _ rfl).2, hb⟩)
theorem get_80 (w : World) (oa : Option Addr) (h : BytesN w oa [128]) : Calls Try.prog 49 #[.slice oa 1 1] w fun e w' => e = .returned (.tuple #[.agg #[.int .u8 0, .int .i64 0, .string ⟨#[]⟩, .string ⟨#[]⟩], .int .i64 0, .int .i64 4]) ∧ Below w.heap.size w w' :=
  (rget_any oa 1 1 [128] rfl (by omega) (by omega) w h (by decide)).mono (by
    rintro e w' ⟨rfl, hb⟩
    rw [w80_get]
    exact ⟨rfl, hb⟩)
theorem put_5 (w : World) : Calls Try.prog 43 #[.agg #[.int .u8 5, .int .i64 0, .string ⟨#[]⟩, .string ⟨#[]⟩]] w fun e w' => e = .returned (.tuple #[.slice none 0 0, .int .i64 11]) ∧ Below w.heap.size w w' :=
  (rput_any 5 0 ⟨#[]⟩ ⟨#[]⟩ (by omega) w).mono (by
    rintro e w' (⟨_, rfl, hb⟩ | ⟨h, _⟩)
    · rw [w5_chk]; exact ⟨rfl, hb⟩
    · rw [w5_chk] at h; cases h)
theorem text_3 (w : World) (oa : Option Addr) (h : BytesN w oa [2, 97, 98, 99]) : Calls Try.prog 51 #[.slice oa 4 4] w fun e w' => e = .returned (.tuple #[.string ⟨#[97, 98]⟩, .int .i64 3, .int .i64 0]) ∧ Below w.heap.size w w' :=
  (getText_any oa 4 4 [2, 97, 98, 99] rfl (by omega) (by omega) w h (by decide)).mono (by
    rintro e w' ⟨rfl, hb⟩
    rw [w3_text]
    exact ⟨rfl, hb⟩)
theorem text_0 (w : World) : Calls Try.prog 47 #[.string ⟨#[0]⟩] w fun e w' => ∃ v, e = .returned v ∧ OwnB w' w.heap.size v (([1, 0] : List UInt8).map UInt8.toNat) ∧ Below w.heap.size w w' :=
  (text_any ⟨#[0]⟩ (by decide) w).mono (by
    rintro e w' ⟨v, rfl, ho, hb⟩
    exact ⟨v, rfl, w0_text ▸ ho, hb⟩)
theorem check_14 (w : World) : Calls Try.prog 45 #[.agg #[.int .u8 1, .int .i64 1, .string ⟨#[]⟩, .string ⟨#[119, 119, 119, 46, 101, 120, 97, 109, 112, 108, 101, 46, 99, 111, 109]⟩]] w fun e w' => e = .returned (.int .i64 0) ∧ Below w.heap.size w w' :=
  (rcheck_any 1 1 ⟨#[]⟩ wwwS (by omega) w).mono (by
    rintro e w' ⟨rfl, hb⟩
    rw [show chkI ⟨1, 1, ⟨#[]⟩, wwwS⟩ = 0 from w14_chk]
    exact ⟨rfl, hb⟩)
#print axioms check_14
end Go.Proofs.Ytmnaljnkgaebkaa
