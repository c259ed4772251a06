/- The document's side of a request: the values of a name, trailers, the rest, lengths. -/
import Derived.Test.YtecmccihldjicaaDoorReqN
namespace Go.Proofs.YtecmccihldjicaaDoor
open Go.RowKit
set_option linter.unusedVariables false
set_option linter.unusedSimpArgs false

/-- Texts in memory. -/
def StrsN (W : World) (oa : Option Addr) (L : List ByteArray) : Prop := ∀ i s, L[i]? = some s → ∃ g, oa = some ⟨g, 0, none⟩ ∧ W.cell? ⟨g, i, none⟩ = some (.string s)
theorem StrsN.below {W W' : World} {oa : Option Addr} {L : List ByteArray} (h : StrsN W oa L) (hn : Below W.heap.size W W') : StrsN W' oa L := by
  intro i s hi
  obtain ⟨a, ha, hc⟩ := h i s hi
  exact ⟨a, ha, (cell_eq (hn.block _ (World.block_lt_of_cell? _ _ hc))).trans hc⟩
def OwnS (w : World) (base : Nat) (v : Value) (L : List ByteArray) : Prop := w.ownsRow base 9 1 v L.length (L.map Value.string)
theorem string_info : (Tryd.prog.info? 9).map (fun i => (i.zero, i.size, i.bytes)) = some (some (.string ⟨#[]⟩), 1, 16) := by kernel_rfl
theorem OwnS.below {w w' : World} {B : Nat} {v : Value} {L : List ByteArray} (h : OwnS w B v L) (hb : Below w.heap.size w w') : OwnS w' B v L := owns_below h hb
theorem OwnS.mono {w : World} {B B' : Nat} {v : Value} {L : List ByteArray} (h : OwnS w B v L) (hb : B' ≤ B) : OwnS w B' v L := World.ownsRow.mono h hb
theorem OwnS.nil (w : World) (B : Nat) : OwnS w B (.slice none 0 0) [] := ⟨rfl, .inl ⟨rfl, rfl⟩⟩
theorem OwnS.form {w : World} {B : Nat} {v : Value} {L : List ByteArray} (h : OwnS w B v L) : ∃ oa cap, v = .slice oa L.length cap ∧ StrsN w oa L ∧ L.length ≤ cap := by
  rcases h.2 with ⟨rfl, h0⟩ | ⟨g, cap, cur, rfl, hb, hg, hn, hm, hs, ht⟩
  · exact ⟨none, 0, by rw [h0], fun i s hi => by rw [List.length_eq_zero_iff.1 h0] at hi; simp at hi, by omega⟩
  · refine ⟨some ⟨g, 0, none⟩, cap, rfl, fun i s hi => ⟨_, rfl, ?_⟩, hn⟩
    have := World.ownsRow.cells h (g := g) rfl i _ (by rw [List.getElem?_map, hi]; rfl)
    rwa [add_zero] at this
theorem OwnS.snoc {w : World} {B : Nat} {v : Value} {L : List ByteArray} {s : ByteArray} (h : w.ownsRow B 9 1 v (L.length + 1) (L.map Value.string ++ [Value.string s])) : OwnS w B v (L ++ [s]) := by
  unfold OwnS
  rw [List.length_append, List.map_append]
  exact h
def valuesL (L : List Fld) (l : List UInt8) : List ByteArray := (L.filter fun f => f.name.data.toList == l).map (·.value)
theorem valuesL_len (L : List Fld) (l : List UInt8) : (valuesL L l).length = cntN L l := by unfold valuesL cntN; rw [List.length_map]
theorem valuesL_snoc (L : List Fld) (f : Fld) (l : List UInt8) : valuesL (L ++ [f]) l = valuesL L l ++ (if f.name.data.toList == l then [f.value] else []) := by
  unfold valuesL
  rw [List.filter_append, List.map_append]
  by_cases h : (f.name.data.toList == l) = true
  · simp [h]
  · simp [h]
theorem valuesL_le (L : List Fld) (l : List UInt8) : (valuesL L l).length ≤ L.length := by rw [valuesL_len]; exact cntN_le _ _
def ValPost (L : List Fld) (l : List UInt8) (w : World) (e : Ending) (w' : World) : Prop := ∃ ob cb, e = .returned (.slice ob (valuesL L l).length cb) ∧ OwnS w' w.heap.size (.slice ob (valuesL L l).length cb) (valuesL L l) ∧ Below w.heap.size w w'
set_option maxRecDepth 100000 in
set_option maxHeartbeats 4000000 in
theorem values_any (oa : Option Addr) (n cap : Nat) (L : List Fld) (hn : L.length = n) (hn2 : n ≤ 1000) (nm : ByteArray) (w : World) (hf : FieldsN w oa L) :
    Calls Tryd.prog 29 #[.slice oa n cap, .string nm] w (ValPost L nm.data.toList w) := by
  obtain ⟨i0, hi0, hz0, hz1, hz2⟩ := info_parts string_info
  have HI := Lib.hid hi0
  have HZ0 := Lib.hid hz0
  have HZ1 := Lib.hid hz1
  have HZ2 := Lib.hid hz2
  have HF := Lib.hid hf
  have HN := Lib.hid hn
  clear hi0 hz0 hz1 hz2 hf hn
  go_enter Tryd.func29, Tryd.ntmps29
  go_wp2_with fail
  go_loopw [5, 6] (fun ov ii wr => ∃ (k : Nat) (vv : Value), ov = vv ∧ ii = .int .i64 k ∧ k ≤ n ∧ OwnS wr w.heap.size vv (valuesL (L.take k) nm.data.toList) ∧ Below w.heap.size w wr) (fun _ ii _ => n - (intOf ii).toNat)
  case atStart => exact ⟨0, _, rfl, rfl, Nat.zero_le _, OwnS.nil _ _, Below.refl _ _⟩
  case round =>
    obtain ⟨k, v, hv, rfl, hk, hown, hb⟩ := hrel
    obtain rfl := hv.symm
    have HO := Lib.hid hown
    have HB := Lib.hid hb
    clear hown hb hv
    by_cases hlt : k < n
    · have hw8 : IntKind.i64.wrap ((k : Int) + 1) = (k : Int) + 1 := IntWalk.i64_in _ (by omega)
      obtain ⟨f, hfk⟩ := get_fld (L := L) (k := k) (by rw [HN.out]; exact hlt)
      have HTK := Lib.hid (show valuesL (L.take (k + 1)) nm.data.toList = valuesL (L.take k) nm.data.toList ++ (if f.name.toList == nm.toList then [f.value] else []) from by rw [take_fld hfk, valuesL_snoc, tl, tl])
      have HVL := Lib.hid (show (valuesL (L.take k) nm.data.toList).length ≤ 1000 from Nat.le_trans (valuesL_le _ _) (by rw [List.length_take]; omega))
      obtain ⟨b, o, hoa, hc0, hc1, hc2⟩ := (HF.out.below HB.out) k f hfk
      subst hoa
      clear hfk hc2
      have HSZ := Lib.hid (show ∀ o : Obj, w.heap.size ≤ (wr.alloc o).heap.size from fun o => by have := HB.out.size; simp; omega)
      obtain ⟨q, hq⟩ : ∃ q, (f.name.toList == nm.toList) = q := ⟨_, rfl⟩
      rw [hq] at HTK
      have HONE := Lib.hid (show ∀ a : ByteArray, ∀ u ∈ [Value.string a], u.oneCell' = true from by intro n u hu; simp at hu; rw [hu]; rfl)
      obtain ⟨nm2, vl, nv⟩ := f
      simp only at hc0 hc1 hq HTK
      generalize valuesL (L.take k) nm.data.toList = V at HTK HVL HO
      cases q
      · go_wp2_with fail
        go_roundw
        case rel => exact ⟨k + 1, _, rfl, rfl, hlt, by rw [HTK.out]; simpa using HO.out, HB.out⟩
        case measure => simp [intOf]; omega
      · go_wp2_with (at_builtin; refine wpList_append_own_at _ rfl _ _ 55 rfl w.heap.size 9 i0 _ 1 16 Tryd.underlying55 HI.out HZ0.out HZ1.out HZ2.out rfl (by omega) _ _ _ rfl (World.ownsRow.alloc HO.out _) ⟨wr.heap.size, 0, none⟩ 1 1 [Value.string vl] rfl rfl (cells_new wr [Value.string vl] _) (HONE.out _) (by unfold maxLen; have := HVL.out; omega) (by have := HVL.out; omega) (HSZ.out _) ?_; intro v7 w7 hown7 hg7 _ _; have HB7 := Lib.hid ((HB.out.alloc HB.out.size _).grown hg7 (HSZ.out _) (fun q hq => (World.ownsRow.lt HO.out q hq).1)); have HO7 := Lib.hid (OwnS.snoc hown7); clear hown7 hg7)
        go_roundw
        case rel => exact ⟨k + 1, _, rfl, rfl, hlt, by rw [HTK.out]; exact HO7.out, HB7.out⟩
        case measure => simp [intOf]; omega
    · obtain rfl : k = n := by omega
      have HL : Hid (L.take k = L) := Lib.hid (List.take_of_length_le (by rw [HN.out]; exact Nat.le_refl _))
      rw [HL.out] at HO
      obtain ⟨ob, cb, rfl, _, _⟩ := HO.out.form
      go_wp2_with fail
      go_ret
      exact ⟨ob, cb, rfl, HO.out, HB.out⟩
theorem FieldsN.drop {W : World} {b o k : Nat} {L : List Fld} (h : FieldsN W (some ⟨b, o, none⟩) L) : FieldsN W (some ⟨b, o + k * 3, none⟩) (L.drop k) := by
  intro i f hf
  rw [List.getElem?_drop] at hf
  obtain ⟨b', o', e, h0, h1, h2⟩ := h (k + i) f hf
  injection e with e
  injection e with e1 e2
  subst e1 e2
  have e : o + (k + i) * 3 = o + k * 3 + i * 3 := by omega
  rw [e] at h0 h1 h2
  exact ⟨_, _, rfl, h0, h1, h2⟩
theorem FieldsN.take {W : World} {oa : Option Addr} {k : Nat} {L : List Fld} (h : FieldsN W oa L) : FieldsN W oa (L.take k) := by
  intro i f hf
  rw [List.getElem?_take] at hf
  split at hf
  · exact h i f hf
  · cases hf
theorem plain_te (f : Fld) : plainB f false = (nameS false f.name.data.toList && (valS f.value.data.toList && (!barB f.name.data.toList && !decide (f.name.data.toList = [116, 101])))) := by
  unfold plainB
  by_cases h : f.name.data.toList = [116, 101]
  · rw [if_pos h, decide_eq_true h]; simp
  · rw [if_neg h, decide_eq_false h]; simp
theorem trailB_no {L : List Fld} {k : Nat} {f : Fld} (h : L[k]? = some f) (hp : plainB f false = false) : trailB L = false := by
  unfold trailB
  rw [List.all_eq_false]
  exact ⟨f, List.mem_of_getElem? h, by simp [hp]⟩
set_option maxRecDepth 100000 in
set_option maxHeartbeats 8000000 in
theorem refTrailers_any (oa : Option Addr) (n cap : Nat) (L : List Fld) (hn : L.length = n) (hn2 : n ≤ 1000) (hl : L.all lightF = true) (w : World) (hf : FieldsN w oa L) :
    Calls Tryd.prog 13 #[.slice oa n cap] w fun e w' => e = .returned (.bool (trailB L)) ∧ w = w' := by
  have HF := Lib.hid hf
  have HN := Lib.hid hn
  have HL := Lib.hid hl
  clear hf hn hl
  go_enter Tryd.func13, Tryd.ntmps13
  go_wp2_with fail
  go_loop [3] (fun i => ∃ k : Nat, i = .int .i64 k ∧ k ≤ n ∧ trailB (L.take k) = true) (fun i => n - (intOf i).toNat)
  case atStart => exact ⟨0, rfl, Nat.zero_le _, rfl⟩
  case round =>
    obtain ⟨k, rfl, hk, hd⟩ := hrel
    have HD := Lib.hid hd
    clear hd
    by_cases hlt : k < n
    · have hw8 : IntKind.i64.wrap ((k : Int) + 1) = (k : Int) + 1 := IntWalk.i64_in _ (by omega)
      obtain ⟨f, hfk⟩ := get_fld (L := L) (k := k) (by rw [HN.out]; exact hlt)
      have HTK := Lib.hid (show trailB (L.take (k + 1)) = (trailB (L.take k) && plainB f false) from by rw [take_fld hfk]; unfold trailB; rw [List.all_append]; simp)
      have HNO := Lib.hid (trailB_no hfk)
      obtain ⟨hm1, hm2⟩ := lightF_max (show lightF f = true from List.all_eq_true.1 HL.out f (List.mem_of_getElem? hfk))
      obtain ⟨b, o, hoa, hc0, hc1, hc2⟩ := HF.out k f hfk
      subst hoa
      clear hfk hc2
      have HPL := Lib.hid (plain_te f)
      generalize plainB f false = pl at HTK HNO HPL
      obtain ⟨nm, vl, nv⟩ := f
      simp only at hc0 hc1 HPL hm1 hm2
      have HT := Lib.hid (fun W => refToken_any nm W (by unfold maxLen; omega))
      have HV := Lib.hid (fun W => refValue_any vl W (by unfold maxLen; omega))
      obtain ⟨b0, h0⟩ : ∃ b, nameS false nm.data.toList = b := ⟨_, rfl⟩
      obtain ⟨b1, h1⟩ : ∃ b, valS vl.data.toList = b := ⟨_, rfl⟩
      rw [h0] at HT
      rw [h1] at HV
      rw [h0, h1] at HPL
      clear h0 h1
      rcases (show b0 = false ∨ (b0 = true ∧ b1 = false) ∨ (b0 = true ∧ b1 = true) from by cases b0 <;> cases b1 <;> simp) with rfl | ⟨rfl, rfl⟩ | ⟨rfl, rfl⟩
      · have HR := Lib.hid (HNO.out (by rw [HPL.out]; rfl))
        go_wp2_with (first
          | (go_at_call 17; with_reducible refine (HT.out _).mono ?_; rintro e w' ⟨rfl, hw⟩; obtain rfl := hw)
          | (go_at_call 33; with_reducible refine (HV.out _).mono ?_; rintro e w' ⟨rfl, hw⟩; obtain rfl := hw))
        go_ret
        exact ⟨ret_b HR.out.symm, rfl⟩
      · have HR := Lib.hid (HNO.out (by rw [HPL.out]; rfl))
        go_wp2_with (first
          | (go_at_call 17; with_reducible refine (HT.out _).mono ?_; rintro e w' ⟨rfl, hw⟩; obtain rfl := hw)
          | (go_at_call 33; with_reducible refine (HV.out _).mono ?_; rintro e w' ⟨rfl, hw⟩; obtain rfl := hw))
        go_ret
        exact ⟨ret_b HR.out.symm, rfl⟩
      · have HQ : Hid (pl = !((nm.toList == [99, 111, 110, 110, 101, 99, 116, 105, 111, 110]) || (nm.toList == [107, 101, 101, 112, 45, 97, 108, 105, 118, 101]) || (nm.toList == [112, 114, 111, 120, 121, 45, 99, 111, 110, 110, 101, 99, 116, 105, 111, 110]) || (nm.toList == [116, 114, 97, 110, 115, 102, 101, 114, 45, 101, 110, 99, 111, 100, 105, 110, 103]) || (nm.toList == [117, 112, 103, 114, 97, 100, 101]) || (nm.toList == [116, 101]))) := Lib.hid (by
          rw [HPL.out, tl]
          unfold barB barL
          simp only [List.contains_cons, Bool.true_and, List.contains_nil, Bool.or_false]
          rw [show decide (nm.data.toList = [116, 101]) = (nm.data.toList == [116, 101]) from by rw [Bool.eq_iff_iff]; simp]
          simp only [Bool.not_or, Bool.and_assoc])
        obtain ⟨c0, q0⟩ : ∃ c, (nm.toList == [99, 111, 110, 110, 101, 99, 116, 105, 111, 110]) = c := ⟨_, rfl⟩
        obtain ⟨c1, q1⟩ : ∃ c, (nm.toList == [107, 101, 101, 112, 45, 97, 108, 105, 118, 101]) = c := ⟨_, rfl⟩
        obtain ⟨c2, q2⟩ : ∃ c, (nm.toList == [112, 114, 111, 120, 121, 45, 99, 111, 110, 110, 101, 99, 116, 105, 111, 110]) = c := ⟨_, rfl⟩
        obtain ⟨c3, q3⟩ : ∃ c, (nm.toList == [116, 114, 97, 110, 115, 102, 101, 114, 45, 101, 110, 99, 111, 100, 105, 110, 103]) = c := ⟨_, rfl⟩
        obtain ⟨c4, q4⟩ : ∃ c, (nm.toList == [117, 112, 103, 114, 97, 100, 101]) = c := ⟨_, rfl⟩
        obtain ⟨c5, q5⟩ : ∃ c, (nm.toList == [116, 101]) = c := ⟨_, rfl⟩
        rw [q0, q1, q2, q3, q4, q5] at HQ
        rcases (show c0 = true ∨ (c0 = false ∧ c1 = true) ∨ (c0 = false ∧ c1 = false ∧ c2 = true) ∨ (c0 = false ∧ c1 = false ∧ c2 = false ∧ c3 = true) ∨ (c0 = false ∧ c1 = false ∧ c2 = false ∧ c3 = false ∧ c4 = true) ∨ (c0 = false ∧ c1 = false ∧ c2 = false ∧ c3 = false ∧ c4 = false ∧ c5 = true) ∨ (c0 = false ∧ c1 = false ∧ c2 = false ∧ c3 = false ∧ c4 = false ∧ c5 = false) from by cases c0 <;> cases c1 <;> cases c2 <;> cases c3 <;> cases c4 <;> cases c5 <;> simp) with rfl | ⟨rfl, rfl⟩ | ⟨rfl, rfl, rfl⟩ | ⟨rfl, rfl, rfl, rfl⟩ | ⟨rfl, rfl, rfl, rfl, rfl⟩ | ⟨rfl, rfl, rfl, rfl, rfl, rfl⟩ | ⟨rfl, rfl, rfl, rfl, rfl, rfl⟩
        case inr.inr.inr.inr.inr.inr =>
          go_wp2_with (first
            | (go_at_call 17; with_reducible refine (HT.out _).mono ?_; rintro e w' ⟨rfl, hw⟩; obtain rfl := hw)
            | (go_at_call 33; with_reducible refine (HV.out _).mono ?_; rintro e w' ⟨rfl, hw⟩; obtain rfl := hw))
          go_round
          case rel => exact ⟨k + 1, rfl, hlt, by rw [HTK.out, HD.out, HQ.out]; rfl⟩
          case measure => simp [intOf]; omega
        all_goals
          have HR := Lib.hid (HNO.out (by rw [HQ.out]; simp))
          go_wp2_with (first
            | (go_at_call 17; with_reducible refine (HT.out _).mono ?_; rintro e w' ⟨rfl, hw⟩; obtain rfl := hw)
            | (go_at_call 33; with_reducible refine (HV.out _).mono ?_; rintro e w' ⟨rfl, hw⟩; obtain rfl := hw))
          go_ret
          exact ⟨ret_b HR.out.symm, rfl⟩
    · obtain rfl : k = n := by omega
      have HL2 : Hid (L.take k = L) := Lib.hid (List.take_of_length_le (by rw [HN.out]; exact Nat.le_refl _))
      rw [HL2.out] at HD
      go_wp2_with fail
      go_ret
      exact ⟨ret_b HD.out.symm, rfl⟩
/-- How many pseudo fields stand ahead. -/
def frontN (L : List Fld) : Nat := (L.takeWhile colonB).length
theorem frontN_le (L : List Fld) : frontN L ≤ L.length := by
  unfold frontN
  induction L with
  | nil => exact Nat.le_refl _
  | cons a l ih => rw [List.takeWhile_cons]; split <;> simp; exact ih
theorem frontN_at : ∀ (L : List Fld) (k : Nat) (f : Fld), L[k]? = some f → (L.take k).all colonB = true → colonB f = false → frontN L = k
  | [], k, f, h, _, _ => by simp at h
  | a :: l, 0, f, h, _, hc => by
    obtain rfl : a = f := by simpa using h
    unfold frontN
    rw [List.takeWhile_cons, if_neg (by simp [hc])]
    rfl
  | a :: l, k + 1, f, h, ha, hc => by
    rw [List.take_succ_cons, List.all_cons, Bool.and_eq_true] at ha
    unfold frontN
    rw [List.takeWhile_cons, if_pos ha.1, List.length_cons]
    have := frontN_at l k f (by simpa using h) ha.2 hc
    unfold frontN at this
    rw [this]
theorem frontN_all {L : List Fld} (h : L.all colonB = true) : frontN L = L.length := by
  unfold frontN
  induction L with
  | nil => rfl
  | cons a l ih =>
    rw [List.all_cons, Bool.and_eq_true] at h
    rw [List.takeWhile_cons, if_pos h.1, List.length_cons, ih h.2, List.length_cons]
set_option maxRecDepth 100000 in
set_option maxHeartbeats 4000000 in
theorem front_any (oa : Option Addr) (n cap : Nat) (L : List Fld) (hn : L.length = n) (hn2 : n ≤ 1000) (w : World) (hf : FieldsN w oa L) :
    Calls Tryd.prog 27 #[.slice oa n cap] w fun e w' => e = .returned (.int .i64 (frontN L : Nat)) ∧ Below w.heap.size w w' := by
  have HF := Lib.hid hf
  have HN := Lib.hid hn
  clear hf hn
  go_enter Tryd.func27, Tryd.ntmps27
  go_wp2_with fail
  go_loopw [3] (fun ii wr => ∃ k : Nat, ii = .int .i64 k ∧ k ≤ n ∧ (L.take k).all colonB = true ∧ Below w.heap.size w wr) (fun ii _ => n - (intOf ii).toNat)
  case atStart => exact ⟨0, rfl, Nat.zero_le _, rfl, Below.refl _ _⟩
  case round =>
    obtain ⟨k, rfl, hk, hd, hb⟩ := hrel
    have HD := Lib.hid hd
    have HB := Lib.hid hb
    clear hd hb
    by_cases hlt : k < n
    · have hw8 : IntKind.i64.wrap ((k : Int) + 1) = (k : Int) + 1 := IntWalk.i64_in _ (by omega)
      obtain ⟨f, hfk⟩ := get_fld (L := L) (k := k) (by rw [HN.out]; exact hlt)
      have HTK := Lib.hid (take_fld hfk)
      have HAT := Lib.hid (frontN_at L k f hfk HD.out)
      obtain ⟨b, o, hoa, hc0, hc1, hc2⟩ := (HF.out.below HB.out) k f hfk
      subst hoa
      clear hfk
      have HP := Lib.hid (fun W => refPseudo_any f W)
      obtain ⟨c, hc⟩ : ∃ c, colonB f = c := ⟨_, rfl⟩
      rw [hc] at HP HAT
      have HC := Lib.hid hc
      clear hc
      cases c
      · have HR := Lib.hid (HAT.out rfl)
        go_wp2_with (first | (go_at_call 43; refine (HP.out _).mono ?_; rintro e w' ⟨rfl, hb⟩; have HB2 := Lib.hid (HB.out.trans (hb.mono HB.out.size)); clear hb))
        go_ret
        exact ⟨ret_i (by rw [HR.out]), HB2.out⟩
      · go_wp2_with (first | (go_at_call 43; refine (HP.out _).mono ?_; rintro e w' ⟨rfl, hb⟩; have HB2 := Lib.hid (HB.out.trans (hb.mono HB.out.size)); clear hb))
        go_roundw
        case rel => exact ⟨k + 1, rfl, hlt, by rw [HTK.out, List.all_append, HD.out]; simp [HC.out], HB2.out⟩
        case measure => simp [intOf]; omega
    · obtain rfl : k = n := by omega
      have HL2 : Hid (L.take k = L) := Lib.hid (List.take_of_length_le (by rw [HN.out]; exact Nat.le_refl _))
      rw [HL2.out] at HD
      have HR := Lib.hid (frontN_all HD.out)
      go_wp2_with fail
      go_ret
      exact ⟨ret_i (by rw [HR.out, HN.out]), HB.out⟩
end Go.Proofs.YtecmccihldjicaaDoor
