/- Rank (with what strings.Cut tells in plain words); plain, Trailers. -/
import Derived.Test.YtecmccihldjicaaDoorReqB
namespace Go.Proofs.YtecmccihldjicaaDoor
open Go.RowKit
set_option linter.unusedVariables false
set_option linter.unusedSimpArgs false

/-- The library's own variable holds some number. -/
def MaxC (w : World) : Prop := ∃ m : Int, w.cell? ⟨0, 0, none⟩ = some (.int .i64 m)
theorem MaxC.below {w W : World} (h : MaxC w) (hb : Below w.heap.size w W) : MaxC W := by
  obtain ⟨m, hm⟩ := h
  exact ⟨m, (cell_eq (a := ⟨0, 0, none⟩) (hb.block 0 (World.block_lt_of_cell? _ _ hm))).trans hm⟩
theorem below_drewN (w : World) (n : Nat) : Below w.heap.size w (w.drewN n) := by
  induction n with
  | zero => exact Below.refl _ _
  | succ n ih => exact ih.drew
def cutL (c : UInt8) : List UInt8 → List UInt8 × List UInt8 × Bool
  | [] => ([], [], false)
  | b :: l => if b = c then ([], l, true) else (b :: (cutL c l).1, (cutL c l).2.1, (cutL c l).2.2)
def splL (c : UInt8) : List UInt8 → List (List UInt8)
  | [] => [[]]
  | b :: l => if b = c then [] :: splL c l else (match splL c l with | [] => [[b]] | x :: r => (b :: x) :: r)
theorem cutL_cons (c b : UInt8) (l : List UInt8) : cutL c (b :: l) = if b = c then ([], l, true) else (b :: (cutL c l).1, (cutL c l).2.1, (cutL c l).2.2) := rfl
theorem splL_cons (c b : UInt8) (l : List UInt8) : splL c (b :: l) = if b = c then [] :: splL c l else (match splL c l with | [] => [[b]] | x :: r => (b :: x) :: r) := rfl
theorem splL_ne (c : UInt8) : ∀ l, splL c l ≠ []
  | [] => by simp [splL]
  | b :: l => by
    unfold splL
    split
    · simp
    · split <;> simp
theorem cutL_miss (c : UInt8) : ∀ l, (cutL c l).2.2 = false → splL c l = [l] ∧ (cutL c l).1 = l ∧ (cutL c l).2.1 = []
  | [], h => ⟨rfl, rfl, rfl⟩
  | b :: l, h => by
    unfold cutL at h ⊢
    unfold splL
    by_cases e : b = c
    · rw [if_pos e] at h; cases h
    · rw [if_neg e] at h ⊢
      rw [if_neg e]
      simp only at h ⊢
      obtain ⟨h1, h2, h3⟩ := cutL_miss c l h
      rw [h1, h2, h3]
      exact ⟨rfl, rfl, rfl⟩
theorem cutL_no (c : UInt8) : ∀ l, c ∉ (cutL c l).1
  | [] => by simp [cutL]
  | b :: l => by
    unfold cutL
    by_cases e : b = c
    · rw [if_pos e]; simp
    · rw [if_neg e]
      simp only [List.mem_cons, not_or]
      exact ⟨fun h => e h.symm, cutL_no c l⟩
theorem cutL_none (c : UInt8) : ∀ a, c ∉ a → cutL c a = (a, [], false)
  | [], _ => rfl
  | x :: a, h => by
    simp only [List.mem_cons, not_or] at h
    unfold cutL
    rw [if_neg (fun e => h.1 e.symm), cutL_none c a h.2]
theorem cutL_app (c : UInt8) (b : List UInt8) : ∀ a, c ∉ a → cutL c (a ++ c :: b) = (a, b, true)
  | [], _ => by simp [cutL]
  | x :: a, h => by
    simp only [List.mem_cons, not_or] at h
    rw [List.cons_append]
    unfold cutL
    rw [if_neg (fun e => h.1 e.symm), cutL_app c b a h.2]
theorem cutL_mem (c : UInt8) : ∀ l x, x ∈ (cutL c l).1 → x ∈ l
  | [], x, h => by simp [cutL] at h
  | b :: l, x, h => by
    unfold cutL at h
    by_cases e : b = c
    · rw [if_pos e] at h; simp at h
    · rw [if_neg e] at h
      rcases List.mem_cons.1 h with h | h
      · exact List.mem_cons.2 (.inl h)
      · exact List.mem_cons.2 (.inr (cutL_mem c l x h))
theorem index_cut (c : UInt8) : ∀ l : List UInt8, ((cutL c l).2.2 = false → Lib.index l [c] = -1) ∧ ((cutL c l).2.2 = true → Lib.index l [c] = ((cutL c l).1.length : Int) ∧ (cutL c l).1 = l.take (cutL c l).1.length ∧ (cutL c l).2.1 = l.drop ((cutL c l).1.length + 1))
  | [] => ⟨fun _ => rfl, fun h => by simp [cutL] at h⟩
  | b :: l => by
    obtain ⟨h1, h2⟩ := index_cut c l
    have hp : [c].isPrefixOf (b :: l) = (c == b) := by simp [List.isPrefixOf]
    unfold cutL Lib.index
    rw [hp]
    by_cases e : b = c
    · subst e
      simp
    · have e' : (c == b) = false := beq_eq_false_iff_ne.2 (fun h => e h.symm)
      rw [if_neg e, e']
      simp only
      constructor
      · intro h
        rw [h1 h]
        rfl
      · intro h
        obtain ⟨a1, a2, a3⟩ := h2 h
        have hne : (Lib.index l [c] == -1) = false := beq_eq_false_iff_ne.2 (by omega)
        rw [hne, a1]
        refine ⟨by simp, ?_, ?_⟩
        · rw [List.length_cons, List.take_succ_cons, ← a2]
        · rw [List.length_cons, List.drop_succ_cons]; exact a3
theorem cut_eq (c : UInt8) (l : List UInt8) : Lib.cut l [c] = cutL c l := by
  obtain ⟨h1, h2⟩ := index_cut c l
  unfold Lib.cut
  cases h : (cutL c l).2.2 with
  | false =>
    rw [h1 h, if_neg (by omega)]
    obtain ⟨_, b1, b2⟩ := cutL_miss c l h
    exact Prod.ext b1.symm (Prod.ext b2.symm h.symm)
  | true =>
    obtain ⟨a1, a2, a3⟩ := h2 h
    rw [if_pos (by omega), a1, Int.toNat_natCast]
    exact Prod.ext a2.symm (Prod.ext a3.symm h.symm)
def rankD (d : List UInt8) : Int := match d with
  | [c] => if 48 ≤ c.toNat ∧ c.toNat ≤ 55 then (c.toNat : Int) - 48 else 3
  | _ => 3
/-- The rank that a value tells. -/
def rankS (l : List UInt8) : Int := if Lib.hasPrefix (cutL 44 l).1 [117, 61] then rankD (Lib.trimPrefix (cutL 44 l).1 [117, 61]) else 3
theorem ret_i {a b : Int} (h : a = b) : Ending.returned (.int .i64 a) = .returned (.int .i64 b) := by rw [h]
set_option maxHeartbeats 4000000 in
theorem rank_any (s : ByteArray) (hs : s.size ≤ 1000000) (w : World) (hM : MaxC w) :
    Calls Tryd.prog 18 #[.string s] w fun e w' => e = .returned (.int .i64 (rankS s.data.toList)) ∧ Below w.heap.size w w' := by
  obtain ⟨m, hm⟩ := hM
  have C := Lib.hid (Tryd.strings_Cut s ⟨#[44]⟩ m w (by omega) hm)
  have HB := Lib.hid (below_drewN w)
  have e : (ByteArray.mk #[44]).data.toList = [44] := rfl
  rw [e, cut_eq] at C
  unfold rankS
  generalize (cutL 44 s.data.toList).2.1.toArray = y at C ⊢
  generalize (cutL 44 s.data.toList).2.2 = z at C ⊢
  generalize (cutL 44 s.data.toList).1 = X at C ⊢
  have D := Lib.hid (fun W => Tryd.strings_CutPrefix ⟨X.toArray⟩ ⟨#[117, 61]⟩ W)
  have e1 : (ByteArray.mk #[117, 61]).data.toList = [117, 61] := rfl
  have e2 : (ByteArray.mk X.toArray).data.toList = X := by simp
  rw [e1, e2] at D
  generalize Lib.hasPrefix X [117, 61] = p at D ⊢
  generalize Lib.trimPrefix X [117, 61] = d at D ⊢
  generalize X.toArray = x at C D
  by_cases hp : p = true
  · subst hp
    have HT := Lib.hid (show (if true = true then rankD d else 3) = rankD d from rfl)
    rw [HT.out]
    by_cases h1 : d.length = 1
    · obtain ⟨c, rfl⟩ : ∃ c, d = [c] := by
        match d, h1 with
        | [c], _ => exact ⟨c, rfl⟩
      clear h1 HT
      have hs1 : (ByteArray.mk [c].toArray).size = 1 := rfl
      have hb : ∀ h, ((ByteArray.mk [c].toArray)[0]'h).toNat = c.toNat := fun h => rfl
      have hc256 := byte_lt c
      have HV : Hid (rankD [c] = if 48 ≤ c.toNat ∧ c.toNat ≤ 55 then (c.toNat : Int) - 48 else 3) := Lib.hid rfl
      generalize rankD [c] = R at HV ⊢
      generalize ByteArray.mk [c].toArray = dd at hs1 hb D
      generalize c.toNat = cn at hb hc256 HV
      have hpos : 0 < dd.size := by omega
      have hb0 := hb hpos
      clear hb
      by_cases ha : cn < 48
      · have q1 : decide ((cn : Int) < 48) = true := decide_eq_true (by omega)
        have HR : Hid (R = 3) := Lib.hid (by rw [HV.out, if_neg (by omega)])
        go_enter Tryd.func18, Tryd.ntmps18
        go_wp2_with (first
          | (go_at_call 37; with_reducible refine C.out.mono ?_; rintro e w1 ⟨rfl, k, hw⟩; obtain rfl := hw.symm)
          | (go_at_call 38; with_reducible refine (D.out _).mono ?_; rintro e w1 ⟨rfl, hw⟩; obtain rfl := hw.symm))
        go_ret
        exact ⟨ret_i HR.out.symm, HB.out _⟩
      · have q1 : decide ((cn : Int) < 48) = false := decide_eq_false (by omega)
        by_cases hz : 55 < cn
        · have q2 : decide ((55 : Int) < (cn : Int)) = true := decide_eq_true (by omega)
          have HR : Hid (R = 3) := Lib.hid (by rw [HV.out, if_neg (by omega)])
          go_enter Tryd.func18, Tryd.ntmps18
          go_wp2_with (first
            | (go_at_call 37; with_reducible refine C.out.mono ?_; rintro e w1 ⟨rfl, k, hw⟩; obtain rfl := hw.symm)
            | (go_at_call 38; with_reducible refine (D.out _).mono ?_; rintro e w1 ⟨rfl, hw⟩; obtain rfl := hw.symm))
          go_ret
          exact ⟨ret_i HR.out.symm, HB.out _⟩
        · have q2 : decide ((55 : Int) < (cn : Int)) = false := decide_eq_false (by omega)
          have HR : Hid (R = (cn : Int) - 48) := Lib.hid (by rw [HV.out, if_pos (by omega)])
          have hw1 : IntKind.u8.wrap ((cn : Int) - 48) = (cn : Int) - 48 := by rw [IntWalk.u8_in _ (by omega)]
          have hw2 : IntKind.i64.wrap ((cn : Int) - 48) = (cn : Int) - 48 := by rw [IntWalk.i64_in _ (by omega)]
          go_enter Tryd.func18, Tryd.ntmps18
          go_wp2_with (first
            | (go_at_call 37; with_reducible refine C.out.mono ?_; rintro e w1 ⟨rfl, k, hw⟩; obtain rfl := hw.symm)
            | (go_at_call 38; with_reducible refine (D.out _).mono ?_; rintro e w1 ⟨rfl, hw⟩; obtain rfl := hw.symm))
          go_ret
          exact ⟨ret_i HR.out.symm, HB.out _⟩
    · have HR : Hid (rankD d = 3) := Lib.hid (by unfold rankD; split <;> simp_all)
      have hl1 : (ByteArray.mk d.toArray).size = d.length := by show d.toArray.size = _; simp
      generalize rankD d = R at HR ⊢
      generalize ByteArray.mk d.toArray = dd at hl1 D
      have q0 : ((dd.size : Int) == 1) = false := beq_eq_false_iff_ne.2 (by omega)
      clear HT
      go_enter Tryd.func18, Tryd.ntmps18
      go_wp2_with (first
        | (go_at_call 37; with_reducible refine C.out.mono ?_; rintro e w1 ⟨rfl, k, hw⟩; obtain rfl := hw.symm)
        | (go_at_call 38; with_reducible refine (D.out _).mono ?_; rintro e w1 ⟨rfl, hw⟩; obtain rfl := hw.symm))
      go_ret
      exact ⟨ret_i HR.out.symm, HB.out _⟩
  · have hp : p = false := by simpa using hp
    subst hp
    have HR := Lib.hid (show (if false = true then rankD d else 3) = 3 from rfl)
    generalize (if false = true then rankD d else 3) = R at HR ⊢
    go_enter Tryd.func18, Tryd.ntmps18
    go_wp2_with (first
      | (go_at_call 37; with_reducible refine C.out.mono ?_; rintro e w1 ⟨rfl, k, hw⟩; obtain rfl := hw.symm)
      | (go_at_call 38; with_reducible refine (D.out _).mono ?_; rintro e w1 ⟨rfl, hw⟩; obtain rfl := hw.symm))
    go_ret
    exact ⟨ret_i HR.out.symm, HB.out _⟩
/-- Is a field that is no pseudo one right? te: may te stand there? -/
def plainB (f : Fld) (te : Bool) : Bool := if f.name.data.toList = [116, 101] then te && (f.value.data.toList == [116, 114, 97, 105, 108, 101, 114, 115]) else nameS false f.name.data.toList && (valS f.value.data.toList && !barB f.name.data.toList)
set_option maxHeartbeats 4000000 in
theorem plain_any (f : Fld) (te : Bool) (hl : lightF f = true) (w : World) :
    Calls Tryd.prog 34 #[f.val, .bool te] w fun e w' => e = .returned (.bool (plainB f te)) ∧ Below w.heap.size w w' := by
  have hl0 := hl
  unfold lightF at hl
  simp only [Bool.and_eq_true, decide_eq_true_eq] at hl
  obtain ⟨hl1, hl2⟩ := hl
  have C1 := Lib.hid (fun W => token_any f.name W (by unfold maxLen; omega))
  have C2 := Lib.hid (fun W => value_any f.value W (by unfold maxLen; omega))
  have C3 := Lib.hid (fun W => barred_any f.name W)
  have HB := Lib.hid ((Below.refl w.heap.size w).alloc (Nat.le_refl _) (.cells #[.string f.name, .string f.value, .bool f.never] 42))
  have HV : Hid (plainB f te = if f.name.data.toList = [116, 101] then te && (f.value.data.toList == [116, 114, 97, 105, 108, 101, 114, 115]) else nameS false f.name.data.toList && (valS f.value.data.toList && !barB f.name.data.toList)) := Lib.hid rfl
  generalize plainB f te = R at HV ⊢
  obtain ⟨nm, vl, nv⟩ := f
  unfold Fld.val
  simp only at C1 C2 C3 HB HV hl1 hl2 ⊢
  by_cases hn : nm.data.toList = [116, 101]
  · have hn1 : (nm.toList == [116, 101]) = true := by rw [tl, hn]; rfl
    rw [if_pos hn] at HV
    rw [← tl vl] at HV
    cases te
    · have HR : Hid (R = false) := Lib.hid (by rw [HV.out]; rfl)
      go_enter Tryd.func34, Tryd.ntmps34
      go_wp2_with fail
      go_ret
      exact ⟨ret_b HR.out.symm, HB.out⟩
    · have HR : Hid (R = (vl.toList == [116, 114, 97, 105, 108, 101, 114, 115])) := Lib.hid (by rw [HV.out]; rfl)
      go_enter Tryd.func34, Tryd.ntmps34
      go_wp2_with fail
      go_ret
      exact ⟨ret_b HR.out.symm, HB.out⟩
  · have hn1 : (nm.toList == [116, 101]) = false := ba_ne _ _ hn
    rw [if_neg hn] at HV
    obtain ⟨b1, hb1⟩ : ∃ b, nameS false nm.data.toList = b := ⟨_, rfl⟩
    obtain ⟨b2, hb2⟩ : ∃ b, valS vl.data.toList = b := ⟨_, rfl⟩
    obtain ⟨b3, hb3⟩ : ∃ b, barB nm.data.toList = b := ⟨_, rfl⟩
    rw [hb1, hb2, hb3] at HV
    rw [hb1] at C1
    rw [hb2] at C2
    rw [hb3] at C3
    clear hb1 hb2 hb3
    have HW := Lib.hid (show ∀ W : World, Below (w.alloc (.cells #[.string nm, .string vl, .bool nv] 42)).heap.size (w.alloc (.cells #[.string nm, .string vl, .bool nv] 42)) W → W.cell? ⟨w.heap.size, 0, none⟩ = some (.string nm) ∧ W.cell? ⟨w.heap.size, 1, none⟩ = some (.string vl) from fun W hW => ⟨(hW.cell (by simp)).trans (by simp [go_sem]), (hW.cell (by simp)).trans (by simp [go_sem])⟩)
    have HS := Lib.hid (Below.refl (w.alloc (.cells #[.string nm, .string vl, .bool nv] 42)).heap.size (w.alloc (.cells #[.string nm, .string vl, .bool nv] 42)))
    cases b1 <;> cases b2 <;> cases b3
    all_goals
      go_enter Tryd.func34, Tryd.ntmps34
      go_wp2_with (first
        | (go_at_call 16; with_reducible refine (C1.out _).mono ?_; rintro e w1 ⟨rfl, hb⟩; replace HB := Lib.hid (HB.out.trans (hb.mono HB.out.size)); replace HS := Lib.hid (HS.out.trans (hb.mono HS.out.size)); clear hb; obtain ⟨hc0, hc1⟩ := HW.out _ HS.out)
        | (go_at_call 42; with_reducible refine (C2.out _).mono ?_; rintro e w1 ⟨rfl, hb⟩; replace HB := Lib.hid (HB.out.trans (hb.mono HB.out.size)); replace HS := Lib.hid (HS.out.trans (hb.mono HS.out.size)); clear hb; obtain ⟨hc0, hc1⟩ := HW.out _ HS.out)
        | (go_at_call 45; with_reducible refine (C3.out _).mono ?_; rintro e w1 ⟨rfl, hb⟩; obtain rfl := hb.symm))
      go_ret
      exact ⟨ret_b HV.out.symm, HB.out⟩
def trailB (L : List Fld) : Bool := L.all (plainB · false)
theorem lightF_max {f : Fld} (h : lightF f = true) : f.name.size ≤ 200 ∧ f.value.size ≤ 200 := by unfold lightF at h; simpa using h
theorem light_at {L : List Fld} (h : light L = true) {k : Nat} {f : Fld} (hf : L[k]? = some f) : lightF f = true := by
  unfold light at h
  simp only [Bool.and_eq_true, List.all_eq_true] at h
  exact h.2 f (List.mem_of_getElem? hf)
theorem light_len {L : List Fld} (h : light L = true) : L.length ≤ 30 := by unfold light at h; simp only [Bool.and_eq_true, decide_eq_true_eq] at h; exact h.1
theorem get_fld {L : List Fld} {k : Nat} (h : k < L.length) : ∃ f, L[k]? = some f := ⟨L[k], List.getElem?_eq_getElem h⟩
theorem take_fld {L : List Fld} {k : Nat} {x : Fld} (h : L[k]? = some x) : L.take (k + 1) = L.take k ++ [x] := by
  rw [List.take_add_one, h]; rfl
set_option maxHeartbeats 4000000 in
theorem trailers_any (oa : Option Addr) (n cap : Nat) (L : List Fld) (hn : L.length = n) (hn2 : n ≤ 1000) (hl : L.all lightF = true) (w : World) (hf : FieldsN w oa L) :
    Calls Tryd.prog 12 #[.slice oa n cap] w fun e w' => e = .returned (.bool (trailB L)) ∧ Below w.heap.size w w' := by
  have HF := Lib.hid hf
  have HL := Lib.hid hl
  have HN := Lib.hid hn
  clear hf hl hn
  go_enter Tryd.func12, Tryd.ntmps12
  go_wp2
  go_loopw [7] (fun ii wr => ∃ k : Nat, ii = .int .i64 k ∧ k ≤ n ∧ (L.take k).all (plainB · false) = true ∧ Below w.heap.size w wr) (fun ii _ => n - (intOf ii).toNat)
  case atStart => exact ⟨0, rfl, Nat.zero_le _, rfl, Below.refl _ _⟩
  case round =>
    obtain ⟨k, rfl, hk, hd, hb⟩ := hrel
    have HD := Lib.hid hd
    have HB := Lib.hid hb
    clear hd hb
    by_cases hlt : k < n
    · have q1 : decide ((k : Int) < (n : Int)) = true := decide_eq_true (by omega)
      obtain ⟨f, hfk⟩ := get_fld (L := L) (k := k) (by rw [HN.out]; exact hlt)
      have HFK := Lib.hid hfk
      have HTK := Lib.hid (take_fld hfk)
      have HLF := Lib.hid (show lightF f = true from List.all_eq_true.1 HL.out f (List.mem_of_getElem? hfk))
      obtain ⟨b, o, hoa, hc0, hc1, hc2⟩ := (HF.out.below HB.out) k f hfk
      subst hoa
      clear hfk
      have HP := Lib.hid (fun W => plain_any f false HLF.out W)
      have hw8 : IntKind.i64.wrap ((k : Int) + 1) = (k : Int) + 1 := IntWalk.i64_in _ (by omega)
      have HA := Lib.hid (HB.out.alloc HB.out.size (.cells #[.string f.name, .string f.value, .bool f.never] 42))
      obtain ⟨r, hr⟩ : ∃ r, plainB f false = r := ⟨_, rfl⟩
      have HR := Lib.hid hr
      rw [hr] at HP
      clear hr
      have hrt : r = false → trailB L = false := (by
        rintro rfl
        unfold trailB
        rw [List.all_eq_false]
        exact ⟨f, List.mem_of_getElem? HFK.out, by rw [HR.out]; simp⟩)
      obtain ⟨nm, vl, nv⟩ := f
      unfold Fld.val at HP
      simp only at hc0 hc1 hc2 HP HA
      cases r
      · have HRT2 := Lib.hid (hrt rfl)
        clear hrt
        go_wp2_with (first
          | (go_at_call 34; with_reducible refine (HP.out _).mono ?_; rintro e w1 ⟨rfl, hb⟩; have HB1 := Lib.hid (HA.out.trans (hb.mono HA.out.size)); clear hb))
        go_ret
        exact ⟨ret_b HRT2.out.symm, HB1.out⟩
      · clear hrt
        go_wp2_with (first
          | (go_at_call 34; with_reducible refine (HP.out _).mono ?_; rintro e w1 ⟨rfl, hb⟩; have HB1 := Lib.hid (HA.out.trans (hb.mono HA.out.size)); clear hb))
        go_roundw
        case rel => exact ⟨k + 1, by go_num, by omega, by rw [HTK.out, List.all_append, HD.out]; simp [HR.out], HB1.out⟩
        case measure => simp [intOf]; omega
    · obtain rfl : k = n := by omega
      have HR : Hid (trailB L = true) := Lib.hid (by
        have := HD.out
        rw [← HN.out, List.take_length] at this
        exact this)
      go_wp2_with fail
      go_ret
      exact ⟨ret_b HR.out.symm, HB.out⟩
end Go.Proofs.YtecmccihldjicaaDoor
