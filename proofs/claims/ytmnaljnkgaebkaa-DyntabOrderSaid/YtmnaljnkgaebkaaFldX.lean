/- footmanlaw04.awake. -/
import Derived.Test.YtmnaljnkgaebkaaFldW
namespace Go.Proofs.Ytmnaljnkgaebkaa
open Go.RowKit
set_option linter.unusedVariables false
set_option linter.unusedSimpArgs false

def LC : List Fld := [fC, fA]
def LE : List Fld := [fE, fC]
theorem light_CA : ∀ f ∈ LC, lightF f = true := fun f hf => light_1 f (by simp [LC] at hf ⊢; rcases hf with rfl | rfl <;> simp)
theorem light_EC : ∀ f ∈ LE, lightF f = true := fun f hf => light_1 f (by simp [LE] at hf ⊢; rcases hf with rfl | rfl <;> simp)
theorem light_A : ∀ f ∈ [fA], lightF f = true := fun f hf => light_1 f (by simp at hf ⊢; simp [hf])
theorem light_E : ∀ f ∈ [fE], lightF f = true := fun f hf => light_1 f (by simp at hf ⊢; simp [hf])
def OwnedPost (m : Int) (n : Nat) (L' : List Fld) (w : World) (e : Ending) (w' : World) : Prop := ∃ oa cap, e = .returned (.agg #[.int .i64 m, .slice oa n cap]) ∧ OwnF w' w.heap.size (.slice oa n cap) L' ∧ FieldsN w' oa L' ∧ Below w.heap.size w w'
theorem add_1 (W : World) : Calls Try.prog 39 #[.agg #[.int .i64 80, .slice none 0 0], .agg #[.string ⟨#[97]⟩, .string ⟨#[98]⟩, .bool false]] W (OwnedPost 80 1 [fA] W) :=
  (add_any 80 none 0 0 [] rfl (fun f h => by simp at h) (by omega) fA rfl W (FieldsN.nil _ _)).mono (by
    rintro e w' ⟨v, rfl, ho, hb⟩
    rw [addL_1] at ho
    obtain ⟨oa, cap, rfl, hf, _⟩ := ho.form
    exact ⟨oa, cap, rfl, ho, hf, hb⟩)
theorem add_2 (oa : Option Addr) (cap : Nat) (W : World) (h : FieldsN W oa [fA]) : Calls Try.prog 39 #[.agg #[.int .i64 80, .slice oa 1 cap], .agg #[.string ⟨#[99]⟩, .string ⟨#[100]⟩, .bool true]] W (OwnedPost 80 2 LC W) :=
  (add_any 80 oa 1 cap [fA] rfl light_A (by omega) fCn rfl W h).mono (by
    rintro e w' ⟨v, rfl, ho, hb⟩
    rw [addL_2] at ho
    obtain ⟨oa, cap, rfl, hf, _⟩ := ho.form
    exact ⟨oa, cap, rfl, ho, hf, hb⟩)
theorem add_3 (oa : Option Addr) (cap : Nat) (W : World) (h : FieldsN W oa LC) : Calls Try.prog 39 #[.agg #[.int .i64 80, .slice oa 2 cap], .agg #[.string ⟨#[101]⟩, .string ⟨#[102]⟩, .bool false]] W (OwnedPost 80 2 LE W) :=
  (add_any 80 oa 2 cap LC rfl light_CA (by omega) fE rfl W h).mono (by
    rintro e w' ⟨v, rfl, ho, hb⟩
    rw [show addL 80 LC fE = LE from addL_3] at ho
    obtain ⟨oa, cap, rfl, hf, _⟩ := ho.form
    exact ⟨oa, cap, rfl, ho, hf, hb⟩)
theorem at_1 (oa : Option Addr) (cap : Nat) (W : World) (h : FieldsN W oa LC) : Calls Try.prog 27 #[.agg #[.int .i64 80, .slice oa 2 cap], .int .i64 62] W fun e w' => e = .returned (.tuple #[.agg #[.string ⟨#[99]⟩, .string ⟨#[100]⟩, .bool false], .bool true]) ∧ Below W.heap.size W w' :=
  (dAt_any 80 oa 2 cap LC rfl 62 rfl W h).mono (by
    rintro e w' ⟨rfl, hb⟩
    exact ⟨rfl, hb⟩)
theorem find_1 (oa : Option Addr) (cap : Nat) (W : World) (h : FieldsN W oa LC) : Calls Try.prog 29 #[.agg #[.int .i64 80, .slice oa 2 cap], .string ⟨#[97]⟩, .string ⟨#[98]⟩] W fun e w' => e = .returned (.tuple #[.int .i64 63, .bool true]) ∧ Below W.heap.size W w' :=
  (dFind_any 80 oa 2 cap LC rfl (by omega) (ba 97) (ba 98) W h).mono (by
    rintro e w' ⟨p, x, hd, rfl, hb⟩
    obtain ⟨rfl, rfl⟩ := hd.uniq found_1
    exact ⟨rfl, hb⟩)
theorem find_2 (oa : Option Addr) (cap : Nat) (W : World) (h : FieldsN W oa LE) : Calls Try.prog 29 #[.agg #[.int .i64 80, .slice oa 2 cap], .string ⟨#[97]⟩, .string ⟨#[98]⟩] W fun e w' => e = .returned (.tuple #[.int .i64 0, .bool false]) ∧ Below W.heap.size W w' :=
  (dFind_any 80 oa 2 cap LE rfl (by omega) (ba 97) (ba 98) W h).mono (by
    rintro e w' ⟨p, x, hd, rfl, hb⟩
    obtain ⟨rfl, rfl⟩ := hd.uniq found_2
    exact ⟨rfl, hb⟩)
def ResdPost (m : Int) (n : Nat) (L' : List Fld) (er : Int) (w : World) (e : Ending) (w' : World) : Prop := ∃ oa cap, e = .returned (.tuple #[.agg #[.int .i64 m, .slice oa n cap], .int .i64 er]) ∧ FieldsN w' oa L' ∧ Below w.heap.size w w'
theorem resize_1 (oa : Option Addr) (cap : Nat) (W : World) (h : FieldsN W oa LE) : Calls Try.prog 38 #[.agg #[.int .i64 80, .slice oa 2 cap], .int .i64 40] W (ResdPost 40 1 [fE] 0 W) :=
  (resize_any 80 40 oa 2 cap LE rfl light_EC (by omega) W h).mono (by
    rintro e w' ⟨v, rfl, ho, hb⟩
    rw [show resL 80 40 LE = [fE] from res_1.1] at ho
    obtain ⟨oa, cap, rfl, hf, _⟩ := ho.form
    exact ⟨oa, cap, rfl, hf, hb⟩)
theorem resize_2 (oa : Option Addr) (cap : Nat) (W : World) (h : FieldsN W oa LE) : Calls Try.prog 38 #[.agg #[.int .i64 80, .slice oa 2 cap], .int .i64 4097] W (ResdPost 80 2 LE 8 W) :=
  (resize_any 80 4097 oa 2 cap LE rfl light_EC (by omega) W h).mono (by
    rintro e w' ⟨v, rfl, ho, hb⟩
    rw [show resL 80 4097 LE = LE from res_2.1] at ho
    obtain ⟨oa, cap, rfl, hf, _⟩ := ho.form
    exact ⟨oa, cap, rfl, hf, hb⟩)
theorem size_1 (oa : Option Addr) (cap : Nat) (W : World) (h : FieldsN W oa LC) : Calls Try.prog 31 #[.agg #[.int .i64 80, .slice oa 2 cap]] W fun e w' => e = .returned (.int .i64 68) ∧ Below W.heap.size W w' :=
  (size_tab 80 oa 2 cap LC rfl light_CA (by omega) W h).mono (by
    rintro e w' ⟨rfl, hb⟩
    exact ⟨rfl, hb⟩)
theorem check_1 (oa : Option Addr) (cap : Nat) (W : World) (h : FieldsN W oa [fE]) : Calls Try.prog 33 #[.agg #[.int .i64 40, .slice oa 1 cap]] W fun e w' => e = .returned (.int .i64 0) ∧ Below W.heap.size W w' :=
  (check_any 40 oa 1 cap [fE] rfl light_E (by omega) W h).mono (by
    rintro e w' ⟨rfl, hb⟩
    exact ⟨rfl, hb⟩)
theorem beq_ba (x y : UInt8) : ((ba x).toList == (ba y).toList) = (x == y) := by
  by_cases h : x = y
  · subst h; simp
  · have hb : (x == y) = false := by simpa using h
    rw [hb]
    refine toList_ne (fun e => h ?_)
    have := congrArg (fun b => b.data.toList) e
    simpa [ba] using this
theorem sameL_1 : sameL LC LC = true := by simp [LC, sameL, eqF]
theorem sameL_2 : sameL LC LE = false := by simp [LC, LE, sameL, eqF, fC, fA, fE, beq_ba]
theorem same_1 (oa : Option Addr) (cap : Nat) (W : World) (h : FieldsN W oa LC) : Calls Try.prog 35 #[.agg #[.int .i64 80, .slice oa 2 cap], .agg #[.int .i64 80, .slice oa 2 cap]] W fun e w' => e = .returned (.bool true) ∧ Below W.heap.size W w' :=
  (same_any 80 80 oa oa 2 2 cap cap LC LC rfl rfl (by omega) (by omega) W h h).mono (by
    rintro e w' ⟨rfl, hb⟩
    rw [sameL_1]
    exact ⟨rfl, hb⟩)
theorem same_2 (oa ob : Option Addr) (cap cap' : Nat) (W : World) (h : FieldsN W oa LC) (h' : FieldsN W ob LE) : Calls Try.prog 35 #[.agg #[.int .i64 80, .slice oa 2 cap], .agg #[.int .i64 80, .slice ob 2 cap']] W fun e w' => e = .returned (.bool false) ∧ Below W.heap.size W w' :=
  (same_any 80 80 oa ob 2 2 cap cap' LC LE rfl rfl (by omega) (by omega) W h h').mono (by
    rintro e w' ⟨rfl, hb⟩
    rw [sameL_2]
    exact ⟨rfl, hb⟩)
#print axioms same_2
end Go.Proofs.Ytmnaljnkgaebkaa
