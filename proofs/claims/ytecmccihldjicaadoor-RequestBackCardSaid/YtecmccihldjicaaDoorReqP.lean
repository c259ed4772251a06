/- The document's side of a request: rest, one, length. -/
import Derived.Test.YtecmccihldjicaaDoorReqO
import Derived.BigQuiet
import Derived.Deep.QuietTactic
namespace Go.Proofs.YtecmccihldjicaaDoor
open Go.RowKit
set_option linter.unusedVariables false
set_option linter.unusedSimpArgs false

def teB (f : Fld) : Bool := (f.name.toList == [116, 101]) && (f.value.toList == [116, 114, 97, 105, 108, 101, 114, 115])
def restL (L : List Fld) : List Fld := L.filter fun f => !teB f
theorem restL_snoc (L : List Fld) (f : Fld) : restL (L ++ [f]) = restL L ++ (if teB f then [] else [f]) := by
  unfold restL
  rw [List.filter_append]
  by_cases h : teB f = true
  · simp [h]
  · simp [h]
def RestPost (L : List Fld) (w : World) (e : Ending) (w' : World) : Prop := ∃ v, e = .returned v ∧ OwnF w' w.heap.size v (restL L) ∧ Below w.heap.size w w'
set_option maxRecDepth 100000 in
set_option maxHeartbeats 4000000 in
theorem rest_any (oa : Option Addr) (n cap : Nat) (L : List Fld) (hn : L.length = n) (hn2 : n ≤ 1000) (w : World) (hf : FieldsN w oa L) :
    Calls Tryd.prog 32 #[.slice oa n cap] w (RestPost L w) := by
  obtain ⟨i0, hi0, hz0, hz1, hz2⟩ := info_parts field_info
  have HI := Lib.hid hi0
  have HZ0 := Lib.hid hz0
  have HZ1 := Lib.hid hz1
  have HZ2 := Lib.hid hz2
  have HF := Lib.hid hf
  have HN := Lib.hid hn
  clear hi0 hz0 hz1 hz2 hf hn
  go_enter Tryd.func32, Tryd.ntmps32
  go_wp2_with fail
  go_loopw [3, 4] (fun ov ii wr => ∃ (k : Nat) (vv : Value), ov = vv ∧ ii = .int .i64 k ∧ k ≤ n ∧ OwnF wr w.heap.size vv (restL (L.take k)) ∧ Below w.heap.size w wr) (fun _ ii _ => n - (intOf ii).toNat)
  case atStart => exact ⟨0, _, rfl, rfl, Nat.zero_le _, World.ownsRow_nil _ _ _ _, Below.refl _ _⟩
  case round =>
    obtain ⟨k, v, hv, rfl, hk, hown, hb⟩ := hrel
    obtain rfl := hv.symm
    have HO := Lib.hid hown
    have HB := Lib.hid hb
    clear hown hb hv
    by_cases hlt : k < n
    · have hw8 : IntKind.i64.wrap ((k : Int) + 1) = (k : Int) + 1 := IntWalk.i64_in _ (by omega)
      obtain ⟨f, hfk⟩ := get_fld (L := L) (k := k) (by rw [HN.out]; exact hlt)
      have HTK := Lib.hid (show restL (L.take (k + 1)) = restL (L.take k) ++ (if teB f then [] else [f]) from by rw [take_fld hfk, restL_snoc])
      have HVL := Lib.hid (show (restL (L.take k)).length ≤ 1000 from Nat.le_trans (List.length_filter_le _ _) (by rw [List.length_take]; omega))
      obtain ⟨b, o, hoa, hc0, hc1, hc2⟩ := (HF.out.below HB.out) k f hfk
      subst hoa
      clear hfk
      have HSZ := Lib.hid (show ∀ o : Obj, w.heap.size ≤ (wr.alloc o).heap.size from fun o => by have := HB.out.size; simp; omega)
      have HONE := Lib.hid (show ∀ (a b : ByteArray) (c : Bool), ∀ u ∈ [Value.string a, .string b, .bool c], u.oneCell' = true from by intro a b c u hu; simp at hu; rcases hu with rfl | rfl | rfl <;> rfl)
      have HTE : Hid (teB f = ((f.name.toList == [116, 101]) && (f.value.toList == [116, 114, 97, 105, 108, 101, 114, 115]))) := Lib.hid rfl
      obtain ⟨b0, q0⟩ : ∃ q, (f.name.toList == [116, 101]) = q := ⟨_, rfl⟩
      obtain ⟨b1, q1⟩ : ∃ q, (f.value.toList == [116, 114, 97, 105, 108, 101, 114, 115]) = q := ⟨_, rfl⟩
      rw [q0, q1] at HTE
      rw [HTE.out] at HTK
      have q0n : (f.name.toList != [116, 101]) = !b0 := by rw [bne, q0]
      have q1n : (f.value.toList != [116, 114, 97, 105, 108, 101, 114, 115]) = !b1 := by rw [bne, q1]
      clear HTE
      obtain ⟨nm, vl, nv⟩ := f
      simp only at hc0 hc1 hc2 HTK q0 q1 q0n q1n
      generalize restL (L.take k) = V at HTK HVL HO
      rcases (show (b0 = true ∧ b1 = true) ∨ b0 = false ∨ (b0 = true ∧ b1 = false) from by cases b0 <;> cases b1 <;> simp) with ⟨rfl, rfl⟩ | rfl | ⟨rfl, rfl⟩
      · go_wp2_with fail
        go_roundw
        case rel => exact ⟨k + 1, _, rfl, rfl, hlt, by rw [HTK.out]; simpa using HO.out, HB.out⟩
        case measure => simp [intOf]; omega
      all_goals
        go_wp2_with (at_builtin; refine wpList_append_own_at _ rfl _ _ 22 rfl w.heap.size 42 i0 _ 3 40 Tryd.underlying22 HI.out HZ0.out HZ1.out HZ2.out rfl (by omega) _ _ _ rfl (World.ownsRow.alloc HO.out _) ⟨wr.heap.size, 0, none⟩ 1 1 [Value.string nm, .string vl, .bool nv] rfl rfl (cells_new wr [Value.string nm, .string vl, .bool nv] _) (HONE.out _ _ _) (by unfold maxLen; have := HVL.out; omega) (by have := HVL.out; omega) (HSZ.out _) ?_; intro v7 w7 hown7 hg7 _ _; have HB7 := Lib.hid ((HB.out.alloc HB.out.size _).grown hg7 (HSZ.out _) (fun q hq => (World.ownsRow.lt HO.out q hq).1)); have HO7 := Lib.hid (show OwnF w7 w.heap.size v7 (V ++ [⟨nm, vl, nv⟩]) from by unfold OwnF; rw [fcells_append, List.length_append]; exact (by simpa [fcells, Fld.cells] using hown7)); clear hown7 hg7)
        go_roundw
        case rel => exact ⟨k + 1, _, rfl, rfl, hlt, by rw [HTK.out]; exact HO7.out, HB7.out⟩
        case measure => simp [intOf]; omega
    · obtain rfl : k = n := by omega
      have HL : Hid (L.take k = L) := Lib.hid (List.take_of_length_le (by rw [HN.out]; exact Nat.le_refl _))
      rw [HL.out] at HO
      go_wp2_with fail
      go_ret
      exact ⟨_, rfl, HO.out, HB.out⟩
def oneVo : List ByteArray → ByteArray
  | [x] => x
  | _ => ⟨#[]⟩
def oneBo : List ByteArray → Bool
  | [x] => valS x.data.toList
  | _ => false
def oneV (L : List Fld) (l : List UInt8) : ByteArray := oneVo (valuesL L l)
def oneB (L : List Fld) (l : List UInt8) : Bool := oneBo (valuesL L l)
theorem one_no {V : List ByteArray} (h : V.length ≠ 1) : oneVo V = ⟨#[]⟩ ∧ oneBo V = false := by
  match V, h with
  | [], _ => exact ⟨rfl, rfl⟩
  | [x], h => exact absurd rfl h
  | _ :: _ :: _, _ => exact ⟨rfl, rfl⟩
theorem ret_sb {a b : ByteArray} {c d : Bool} (h : a = b) (h' : c = d) : Ending.returned (.tuple #[.string a, .bool c]) = .returned (.tuple #[.string b, .bool d]) := by rw [h, h']
theorem values_size {L : List Fld} {l : List UInt8} (hl : L.all lightF = true) : ∀ x ∈ valuesL L l, x.size ≤ 200 := by
  intro x hx
  unfold valuesL at hx
  obtain ⟨f, hf, rfl⟩ := List.mem_map.1 hx
  exact (lightF_max (List.all_eq_true.1 hl f (List.mem_filter.1 hf).1)).2
set_option maxRecDepth 100000 in
set_option maxHeartbeats 4000000 in
theorem one_any (oa : Option Addr) (n cap : Nat) (L : List Fld) (hn : L.length = n) (hn2 : n ≤ 1000) (hl : L.all lightF = true) (nm : ByteArray) (w : World) (hf : FieldsN w oa L) :
    Calls Tryd.prog 28 #[.slice oa n cap, .string nm] w fun e w' => e = .returned (.tuple #[.string (oneV L nm.data.toList), .bool (oneB L nm.data.toList)]) ∧ Below w.heap.size w w' := by
  have HC := Lib.hid (values_any oa n cap L hn hn2 nm w hf)
  have HVS := Lib.hid (values_size (l := nm.data.toList) hl)
  unfold oneV oneB
  unfold ValPost at HC
  generalize valuesL L nm.data.toList = V at HC HVS ⊢
  clear hf hl hn
  by_cases h1 : V.length = 1
  · obtain ⟨x, rfl⟩ : ∃ x, V = [x] := by
      match V, h1 with
      | [x], _ => exact ⟨x, rfl⟩
    have hxs := HVS.out x (by simp)
    have HV := Lib.hid (fun W => refValue_any x W (by unfold maxLen; omega))
    show Calls _ _ _ _ (fun e w' => e = .returned (.tuple #[.string x, .bool (valS x.data.toList)]) ∧ Below w.heap.size w w')
    generalize valS x.data.toList = bv at HV ⊢
    change Hid (Calls _ _ _ _ (fun e w' => ∃ ob cb, e = .returned (.slice ob 1 cb) ∧ OwnS w' w.heap.size (.slice ob 1 cb) [x] ∧ Below w.heap.size w w')) at HC
    clear HVS h1
    go_enter Tryd.func28, Tryd.ntmps28
    go_upto_region 4 with (first | (go_at_call 29; refine HC.out.mono ?_; rintro e w2 ⟨ob, cb, rfl, ho, hb⟩; have HO := Lib.hid ho; have HB := Lib.hid hb; clear ho hb))
    obtain ⟨ob', cb', e, hs, hcap⟩ := HO.out.form
    obtain ⟨rfl, hl9, rfl⟩ := Value.slice.inj e
    obtain ⟨g, rfl, hc⟩ := hs 0 x rfl
    clear hs e hl9 hcap
    go_region_with (go_at_call 33; with_reducible refine (HV.out _).mono ?_; rintro e w' ⟨rfl, hw⟩; obtain rfl := hw)
    all_goals
      go_wp2_with fail
      go_ret2
      exact ⟨rfl, HB.out.drew⟩
  · have q : ((V.length : Int) != 1) = true := by rw [bne, beq_eq_false_iff_ne.2 (by omega)]; rfl
    have HM2 := Lib.hid (one_no h1)
    generalize oneVo V = r1 at HM2 ⊢
    generalize oneBo V = r2 at HM2 ⊢
    clear h1
    go_enter Tryd.func28, Tryd.ntmps28
    go_wp2_with (first | (go_at_call 29; refine HC.out.mono ?_; rintro e w2 ⟨ob, cb, rfl, ho, hb⟩; have HO := Lib.hid ho; have HB := Lib.hid hb; clear ho hb))
    go_ret2
    exact ⟨ret_sb HM2.out.1.symm HM2.out.2.symm, HB.out⟩
/-- The lengths that values tell, one behind the other. -/
def lenGo : List ByteArray → Nat → Int → Int × Bool
  | [], _, n => (n, true)
  | x :: t, i, n => if numOk x.data.toList && (decide (i = 0) || decide (numI x.data.toList = n)) then lenGo t (i + 1) (numI x.data.toList) else (0, false)
theorem ret_ib {a b : Int} {c d : Bool} (h : a = b) (h' : c = d) : Ending.returned (.tuple #[.int .i64 a, .bool c]) = .returned (.tuple #[.int .i64 b, .bool d]) := by rw [h, h']
theorem drop_at {α : Type} {L : List α} {k : Nat} {f : α} (h : L[k]? = some f) : L.drop k = f :: L.drop (k + 1) := by
  obtain ⟨hk, he⟩ := List.getElem?_eq_some_iff.1 h
  rw [List.drop_eq_getElem_cons hk, he]
set_option maxRecDepth 100000 in
set_option maxHeartbeats 4000000 in
theorem length_any (oa : Option Addr) (n cap : Nat) (L : List Fld) (hn : L.length = n) (hn2 : n ≤ 1000) (hl : L.all lightF = true) (w : World) (hf : FieldsN w oa L) :
    Calls Tryd.prog 30 #[.slice oa n cap] w fun e w' => e = .returned (.tuple #[.int .i64 (lenGo (valuesL L nLen) 0 (-1)).1, .bool (lenGo (valuesL L nLen) 0 (-1)).2]) ∧ Below w.heap.size w w' := by
  have HC := Lib.hid (values_any oa n cap L hn hn2 ⟨#[99, 111, 110, 116, 101, 110, 116, 45, 108, 101, 110, 103, 116, 104]⟩ w hf)
  have e0 : (ByteArray.mk #[99, 111, 110, 116, 101, 110, 116, 45, 108, 101, 110, 103, 116, 104]).data.toList = nLen := rfl
  rw [e0] at HC
  have HVS := Lib.hid (values_size (l := nLen) hl)
  have hvl := valuesL_le L nLen
  rw [hn] at hvl
  unfold ValPost at HC
  generalize valuesL L nLen = V at HC HVS hvl ⊢
  obtain ⟨R, hR⟩ : ∃ R, lenGo V 0 (-1) = R := ⟨_, rfl⟩
  have HR0 := Lib.hid hR
  rw [hR]
  clear hf hl hn e0 hR
  go_enter Tryd.func30, Tryd.ntmps30
  go_wp2_with (first | (go_at_call 29; refine HC.out.mono ?_; rintro e w2 ⟨ob, cb, rfl, ho, hb⟩; have HO := Lib.hid ho; have HB := Lib.hid hb; clear ho hb))
  obtain ⟨ob', cb', e, hs, _⟩ := HO.out.form
  have HS : Hid (StrsN w2 ob V) := Lib.hid (by obtain ⟨rfl, _, rfl⟩ := Value.slice.inj e; exact hs)
  clear hs e HC
  go_loopw [5, 6] (fun nv ii wr => ∃ (k : Nat) (m : Int), nv = .int .i64 m ∧ ii = .int .i64 k ∧ k ≤ V.length ∧ lenGo (V.drop k) k m = R ∧ wr = w2) (fun _ ii _ => V.length - (intOf ii).toNat)
  case atStart => exact ⟨0, -1, rfl, rfl, Nat.zero_le _, HR0.out, rfl⟩
  case round =>
    obtain ⟨k, m, rfl, rfl, hk, hgo, hw⟩ := hrel
    obtain rfl := hw.symm
    have HG := Lib.hid hgo
    clear hgo hw
    by_cases hlt : k < V.length
    · have hw8 : IntKind.i64.wrap ((k : Int) + 1) = (k : Int) + 1 := IntWalk.i64_in _ (by omega)
      have q1 : decide ((k : Int) < (V.length : Int)) = true := decide_eq_true (by omega)
      obtain ⟨x, hx⟩ : ∃ x, V[k]? = some x := ⟨V[k], List.getElem?_eq_getElem hlt⟩
      obtain ⟨g, rfl, hc⟩ := HS.out k x hx
      have hxs := HVS.out x (List.mem_of_getElem? hx)
      rw [drop_at hx] at HG
      have HNM := Lib.hid (fun W => refNumber x W (by unfold maxLen; omega))
      have HG2 : Hid ((if numOk x.data.toList && (decide (k = 0) || decide (numI x.data.toList = m)) then lenGo (V.drop (k + 1)) (k + 1) (numI x.data.toList) else (0, false)) = R) := Lib.hid (by have := HG.out; unfold lenGo at this; exact this)
      clear HG hx
      obtain ⟨bo, hbo⟩ : ∃ b, numOk x.data.toList = b := ⟨_, rfl⟩
      rw [hbo] at HNM HG2
      clear hbo
      generalize numI x.data.toList = y at HNM HG2
      have e3 : ((y : Int) != m) = !decide (y = m) := by rw [dne]; simp
      have e4 : (y == m) = decide (y = m) := by rw [Bool.eq_iff_iff]; simp
      obtain ⟨by', hby⟩ : ∃ b, decide (y = m) = b := ⟨_, rfl⟩
      rw [hby] at e3 e4 HG2
      clear hby
      rcases (show bo = false ∨ (bo = true ∧ k = 0) ∨ (bo = true ∧ 0 < k ∧ by' = true) ∨ (bo = true ∧ 0 < k ∧ by' = false) from by rcases Nat.eq_zero_or_pos k with h | h <;> cases bo <;> cases by' <;> simp [h]) with rfl | ⟨rfl, rfl⟩ | ⟨rfl, hpos, rfl⟩ | ⟨rfl, hpos, rfl⟩
      · have HRR : Hid (R = (0, false)) := Lib.hid (by have := HG2.out; simpa using this.symm)
        go_wp2_with (first | (go_at_call 15; with_reducible refine (HNM.out _).mono ?_; rintro e w' ⟨rfl, hw⟩; obtain rfl := hw))
        go_ret2
        exact ⟨ret_ib (by rw [HRR.out]) (by rw [HRR.out]), HB.out⟩
      · have HG3 : Hid (lenGo (V.drop 1) 1 y = R) := Lib.hid (by have := HG2.out; simpa using this)
        clear HG2
        go_wp2_with (first | (go_at_call 15; with_reducible refine (HNM.out _).mono ?_; rintro e w' ⟨rfl, hw⟩; obtain rfl := hw))
        go_roundw
        case rel => exact ⟨1, y, rfl, rfl, hlt, HG3.out, trivial⟩
        case measure => simp [intOf]; omega
      · have HG3 : Hid (lenGo (V.drop (k + 1)) (k + 1) y = R) := Lib.hid (by have := HG2.out; simpa using this)
        clear HG2
        have q2 : decide ((0 : Int) < (k : Int)) = true := decide_eq_true (by omega)
        go_wp2_with (first | (go_at_call 15; with_reducible refine (HNM.out _).mono ?_; rintro e w' ⟨rfl, hw⟩; obtain rfl := hw))
        go_roundw
        case rel => exact ⟨k + 1, y, rfl, rfl, hlt, HG3.out, trivial⟩
        case measure => simp [intOf]; omega
      · have HRR : Hid (R = (0, false)) := Lib.hid (by
          have := HG2.out
          rw [decide_eq_false (show ¬ k = 0 by omega)] at this
          simpa using this.symm)
        have q2 : decide ((0 : Int) < (k : Int)) = true := decide_eq_true (by omega)
        go_wp2_with (first | (go_at_call 15; with_reducible refine (HNM.out _).mono ?_; rintro e w' ⟨rfl, hw⟩; obtain rfl := hw))
        go_ret2
        exact ⟨ret_ib (by rw [HRR.out]) (by rw [HRR.out]), HB.out⟩
    · obtain rfl : k = V.length := by omega
      have q1 : decide ((V.length : Int) < (V.length : Int)) = false := by simp
      have HRR : Hid (R = (m, true)) := Lib.hid (by have := HG.out; rw [List.drop_length] at this; exact this.symm)
      go_wp2_with fail
      go_ret2
      exact ⟨ret_ib (by rw [HRR.out]) (by rw [HRR.out]), HB.out⟩
end Go.Proofs.YtecmccihldjicaaDoor
