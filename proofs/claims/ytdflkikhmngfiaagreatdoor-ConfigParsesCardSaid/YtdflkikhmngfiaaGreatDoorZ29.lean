/- RspA · EyIt: joined by a program, for a claim has at most 60 files. -/
import Derived.Test.YtdflkikhmngfiaaGreatDoorZ27
import Derived.Test.YtdflkikhmngfiaaGreatDoorZ28
import Derived.WalkSmall
import Derived.Lib.AppendIntMem
import Derived.Deep.RegionHeld
import Derived.Test.YtdflkikhmngfiaaGreatDoorZ26
import Derived.Laws.StandIn
/- Numerals: strconv.Itoa's and the document's. -/
namespace Go.Proofs.YtdflkikhmngfiaaGreatDoor
open Go.RowKit
set_option linter.unusedVariables false
set_option linter.unusedSimpArgs false

def decS (n : Nat) : ByteArray := ⟨(Lib.decDigits n).toArray⟩
/-- The table of powers is as the program's text lays it. -/
def Tab (w : World) : Prop := Lib.TabIs Tryz.prog w "internal/strconv.uint64pow10" .u64 Lib.pow10Tab
theorem pow_global : ∃ g, Tryz.prog.globalNamed "internal/strconv.uint64pow10" = some g := Option.isSome_iff_exists.1 (by kernel_rfl)
theorem Tab.below {w W : World} (h : Tab w) (hb : Below w.heap.size w W) : Tab W := by
  obtain ⟨g, hg⟩ := pow_global
  have hc := Lib.TabIs.cell h hg 0 (by decide)
  exact var?_below hb hg (World.block_lt_of_cell? _ _ hc) h
theorem itoa_any (n : Nat) (hn : n ≤ 4294967295) (w : World) (hT : Tab w) : Calls Tryz.prog 27 #[.int .i64 (n : Int)] w fun e w' => e = .returned (.string (decS n)) ∧ Below w.heap.size w w' :=
  (Tryz.strconv_Itoa (n : Int) (by omega) (by omega) w hT).mono (by
    rintro e w' ⟨rfl, k, os, rfl⟩
    exact ⟨by rw [Lib.itoa_nonneg]; rfl, Lib.below_grow _ _ (Nat.le_refl _) _ _⟩)
theorem decS_one {n : Nat} (h : n < 10) : decS n = ⟨#[UInt8.ofNat (48 + n)]⟩ := by unfold decS; rw [Lib.decDigits_one h]
theorem decS_more {n : Nat} (h : ¬ n < 10) : decS n = decS (n / 10) ++ decS (n % 10) := by
  have h1 : Lib.decDigits n = Lib.decDigits (n / 10) ++ [UInt8.ofNat (48 + n % 10)] := by rw [Lib.decDigits, dif_neg h]
  unfold decS
  rw [h1, Lib.decDigits_one (Nat.mod_lt n (by omega))]
  apply ByteArray.ext
  simp
theorem nDigits_le : ∀ (k n : Nat), n < 10 ^ (k + 1) → Lib.nDigits n ≤ k + 1
  | 0, n, h => by rw [Lib.nDigits, dif_pos (by simpa using h)]; exact Nat.le_refl _
  | k + 1, n, h => by
    rw [Lib.nDigits]
    split
    · omega
    · have := nDigits_le k (n / 10) (by rw [Nat.pow_succ] at h; omega)
      omega
theorem decS_size (n : Nat) (h : n ≤ 4294967295) : (decS n).size ≤ 10 := by
  have h1 : (decS n).size = Lib.nDigits n := by rw [← Lib.decDigits_length]; rfl
  rw [h1]
  exact nDigits_le 9 n (by omega)
end Go.Proofs.YtdflkikhmngfiaaGreatDoor


/- strconv.Itoa for the machine, by its contract. -/
namespace Go.Proofs.YtdflkikhmngfiaaGreatDoor
open Go.RowKit
set_option linter.unusedVariables false
set_option linter.unusedSimpArgs false
set_option linter.unusedSectionVars false

/-- The table of powers stands, below the block. -/
def TabB (B : Nat) (w : World) : Prop := Tab w ∧ ∀ g, (Tryz.prog).globalNamed "internal/strconv.uint64pow10" = some g → g < B
theorem TabB.keep {B : Nat} {w w' : World} (h : TabB B w) (hb : Below B w w') : TabB B w' := by
  obtain ⟨g, hg⟩ := pow_global
  exact ⟨var?_below hb hg (h.2 g hg) h.1, h.2⟩
theorem TabB.start {W : World} (h : Tab W) : TabB W.heap.size W := by
  refine ⟨h, fun g hg => ?_⟩
  have hc := Lib.TabIs.cell h hg 0 (by decide)
  exact World.block_lt_of_cell? _ _ hc
/-- Nothing is unknown; the table stands. -/
theorem TabB.up {B B' : Nat} {w : World} (hB : B ≤ B') (h : TabB B w) : TabB B' w := ⟨h.1, fun g hg => Nat.lt_of_lt_of_le (h.2 g hg) hB⟩
@[reducible] def tabSy : Sy := ⟨fun _ => default, fun _ _ => default, fun _ _ => none, TabB, fun _ => none, TabB.up, TabB.keep⟩
variable [Sy] [Dc] [DcOK]
/-- A number's digits. -/
noncomputable def digF (f : Nat) : Nat → List Nat → List Nat :=
  Nat.rec (motive := fun _ => Nat → List Nat → List Nat) (fun _ acc => acc) (fun _ ih n acc => bif Nat.blt n 10 then fNat (Nat.add 48 n) (fun d => d :: acc) else fNat (Nat.add 48 (n % 10)) fun d => ih (n / 10) (d :: acc)) f
theorem digF_succ (f n : Nat) (acc : List Nat) : digF (f + 1) n acc = if n < 10 then (48 + n) :: acc else digF f (n / 10) ((48 + n % 10) :: acc) := by
  show (bif Nat.blt n 10 then fNat (Nat.add 48 n) (fun d => d :: acc) else fNat (Nat.add 48 (n % 10)) fun d => digF f (n / 10) (d :: acc)) = _
  rw [fNat_eq, fNat_eq]
  by_cases h : n < 10
  · rw [if_pos h, blt_t h]; rfl
  · rw [if_neg h, blt_f h]; rfl
theorem bytesOf_append (a b : List Nat) : bytesOf (a ++ b) = bytesOf a ++ bytesOf b := by
  apply ByteArray.ext
  simp [bytesOf]
theorem digF_is : ∀ (f n : Nat) (acc : List Nat), n < 10 ^ f → 0 < f → bytesOf (digF f n acc) = decS n ++ bytesOf acc ∧ ∀ b ∈ digF f n acc, b < 256 ∨ b ∈ acc
  | 0, n, acc, h, h0 => by omega
  | f + 1, n, acc, h, _ => by
    rw [digF_succ]
    by_cases h1 : n < 10
    · rw [if_pos h1, decS_one h1]
      refine ⟨?_, fun b hb => ?_⟩
      · rw [show (48 + n) :: acc = [48 + n] ++ acc from rfl, bytesOf_append]
        rfl
      · rcases List.mem_cons.1 hb with rfl | hb
        · left; omega
        · exact .inr hb
    · rw [if_neg h1]
      have h10 : n / 10 < 10 ^ f := by rw [Nat.pow_succ] at h; omega
      have hf : 0 < f := by
        cases f with
        | zero => simp at h; omega
        | succ f => omega
      obtain ⟨k1, k2⟩ := digF_is f (n / 10) ((48 + n % 10) :: acc) h10 hf
      refine ⟨?_, fun b hb => ?_⟩
      · rw [k1, decS_more h1, decS_one (Nat.mod_lt n (by omega)), show (48 + n % 10) :: acc = [48 + n % 10] ++ acc from rfl, bytesOf_append, ByteArray.append_assoc]
        rfl
      · rcases k2 b hb with h | h
        · exact .inl h
        · rcases List.mem_cons.1 h with rfl | h
          · left; omega
          · exact .inr h
noncomputable def itoaM (args : List AV) : M AV :=
  match args with
  | [.int .i64 (.ofNat n)] => want (Nat.blt n 4294967296) 800 (ret (.str (rdyL (digF 20 n []))))
  | _ => fail [801]
theorem loc_itoaM (args : List AV) : Loc (itoaM args) := by
  unfold itoaM
  split
  · exact Loc.want _ _ (Loc.ret _)
  · exact Loc.fail _
theorem itoaM_snd {B : Nat} {args : List AV} {lo : Nat} {h : Heap} {c : Nat} {lg : List Ev} {x : AV} {h' : Heap} {c' : Nat} {lg' : List Ev} (e : itoaM args lo h c lg = .ok x h' c' lg') {ρ : Pm} {w : World} {vs : Array Value}
    (hT : Tab w) (hr : Rep B ρ h w) (hv : AV.rps ρ args vs.toList) (hN : NamesOK Tryz.prog) : CallRes Tryz.prog B 27 vs ρ w x h' := by
  unfold itoaM at e
  split at e
  · rename_i n
    obtain ⟨hn, e⟩ := want_ok e
    obtain ⟨rfl, rfl, _, _⟩ := ret_ok e
    have hn := blt_iff.1 hn
    obtain ⟨v, rfl, h1⟩ := rps_l1 hv
    simp only [AV.rp] at h1
    subst h1
    refine .inl ⟨MuLone.run_callFunc_enter Tryz.func27 (hN _ _ _ Tryz.func27 rfl) rfl _ w, (itoa_any n (by omega) w hT).mono fun e w' ⟨h1, h2⟩ => ?_⟩
    refine ⟨ρ, _, h1, Pm.le.refl ρ, ?_, hr.grow h2, below_grow hr h2⟩
    rw [rdyL_eq]
    obtain ⟨k1, k2⟩ := digF_is 20 n [] (by omega) (by omega)
    simp only [AV.rp]
    refine ⟨fun b hb => (k2 b hb).elim id (fun h => by cases h), ?_⟩
    rw [k1]
    congr 1
    apply ByteArray.ext
    simp [bytesOf]
  · cases e
/-- The place of a byte. -/
noncomputable def idxL (c : Nat) (l : List Nat) : Nat → Int := List.rec (motive := fun _ => Nat → Int) (fun _ => -1) (fun x _ ih i => bif Nat.beq x c then .ofNat i else ih (Nat.succ i)) l
theorem idxL_cons (c x : Nat) (l : List Nat) (i : Nat) : idxL c (x :: l) i = bif Nat.beq x c then (i : Int) else idxL c l (i + 1) := rfl
theorem idxL_is (c : Nat) : ∀ (l : List Nat) (i : Nat), idxL c l i = match (List.range l.length).find? (fun j => l.getD j 0 == c) with | some j => ((i + j : Nat) : Int) | none => -1
  | [], i => rfl
  | x :: l, i => by
    rw [idxL_cons, List.length_cons, List.range_succ_eq_map, List.find?_cons]
    by_cases h : x = c
    · rw [beq_t h]
      simp [h]
    · rw [beq_f h]
      have h2 : ((x :: l).getD 0 0 == c) = false := by simpa using h
      rw [h2]
      show idxL c l (i + 1) = _
      rw [idxL_is c l (i + 1), List.find?_map]
      have e : ((fun j => (x :: l).getD j 0 == c) ∘ Nat.succ) = fun j => l.getD j 0 == c := by funext j; simp
      rw [e]
      cases (List.range l.length).find? (fun j => l.getD j 0 == c) with
      | none => rfl
      | some j => simp only [Option.map_some]; congr 1; simp; omega
theorem firstIdx_is {l : List Nat} {c : Nat} (hl : ∀ b ∈ l, b < 256) (hc : c < 256) : firstIdx (bytesOf l) (UInt8.ofNat c) = idxL c l 0 := by
  rw [idxL_is]
  unfold firstIdx
  rw [bytesOf_size]
  have e : ∀ j, j < l.length → ((bytesOf l)[j]! == UInt8.ofNat c) = (l.getD j 0 == c) := fun j hj => by
    have h1 : (bytesOf l)[j]! = UInt8.ofNat (l.getD j 0) := by
      have hs : j < (bytesOf l).size := by rw [bytesOf_size]; exact hj
      rw [getElem!_pos (bytesOf l) j hs]
      have e3 : (l.map UInt8.ofNat).toArray[j]'(by simpa using hj) = UInt8.ofNat (l[j]'hj) := by rw [List.getElem_toArray, List.getElem_map]
      rw [List.getD_eq_getElem?_getD, List.getElem?_eq_getElem hj]
      exact e3
    have hb : l.getD j 0 < 256 := hl _ (by rw [List.getD_eq_getElem?_getD, List.getElem?_eq_getElem hj]; exact List.getElem_mem hj)
    rw [h1]
    by_cases h2 : l.getD j 0 = c
    · rw [h2]; simp
    · have : UInt8.ofNat (l.getD j 0) ≠ UInt8.ofNat c := fun h3 => h2 (by
        have h4 := congrArg UInt8.toNat h3
        rw [UInt8.toNat_ofNat', UInt8.toNat_ofNat', Nat.mod_eq_of_lt hb, Nat.mod_eq_of_lt hc] at h4
        exact h4)
      rw [beq_eq_false_iff_ne.2 this, beq_eq_false_iff_ne.2 h2]
  have e2 : (List.range l.length).find? (fun i => (bytesOf l)[i]! == UInt8.ofNat c) = (List.range l.length).find? (fun j => l.getD j 0 == c) := by
    have : ∀ (m : List Nat), (∀ j ∈ m, j < l.length) → m.find? (fun i => (bytesOf l)[i]! == UInt8.ofNat c) = m.find? (fun j => l.getD j 0 == c) := by
      intro m
      induction m with
      | nil => intro _; rfl
      | cons a m ih =>
        intro h
        rw [List.find?_cons, List.find?_cons, e a (h a (by simp)), ih (fun j hj => h j (by simp [hj]))]
    exact this _ (fun j hj => List.mem_range.1 hj)
  rw [e2]
  cases (List.range l.length).find? (fun j => l.getD j 0 == c) with
  | none => rfl
  | some j => show (j : Int) = ((0 + j : Nat) : Int); rw [Nat.zero_add]
noncomputable def idxM (args : List AV) : M AV := match args with
  | [.str l, .int .u8 (.ofNat c)] => want (Nat.blt c 256) 802 (ret (.int .i64 (idxL c l 0)))
  | _ => fail [803]
theorem loc_idxM (args : List AV) : Loc (idxM args) := by
  unfold idxM
  split
  · exact Loc.want _ _ (Loc.ret _)
  · exact Loc.fail _
theorem idxM_snd {P : Program} {f : FuncId} {fn : Func} (hf : P.funcs[f]? = some fn) (hname : (fn.name == "runtime.NumGoroutine") = false) (hb : fn.body.isNone = true) (hn : Extern.findNext fn = none) (he : Extern.find fn = some Extern.BytealgIndexByte.indexByte)
    {B : Nat} {args : List AV} {lo : Nat} {h : Heap} {c : Nat} {lg : List Ev} {x : AV} {h' : Heap} {c' : Nat} {lg' : List Ev} (e : idxM args lo h c lg = .ok x h' c' lg') {ρ : Pm} {w : World} {vs : Array Value}
    (hr : Rep B ρ h w) (hv : AV.rps ρ args vs.toList) : CallRes P B f vs ρ w x h' := by
  unfold idxM at e
  split at e
  · rename_i l c
    obtain ⟨hc, e⟩ := want_ok e
    obtain ⟨rfl, rfl, _, _⟩ := ret_ok e
    have hc := blt_iff.1 hc
    obtain ⟨v, u, rfl, h1, h2⟩ := rps_l2 hv
    simp only [AV.rp] at h1 h2
    obtain ⟨h3, rfl⟩ := h1
    subst h2
    refine .inr ⟨ρ, .int .i64 (idxL c l 0), w, ?_, Pm.le.refl ρ, by simp only [AV.rp], hr, Below.refl _ _⟩
    rw [run_callFunc_indexByte hf hname hb hn he, run_indexByte_string]
    have : (Int.ofNat c).toNat.toUInt8 = UInt8.ofNat c := rfl
    rw [this, firstIdx_is h3 hc]
    rfl
  · cases e
end Go.Proofs.YtdflkikhmngfiaaGreatDoor

