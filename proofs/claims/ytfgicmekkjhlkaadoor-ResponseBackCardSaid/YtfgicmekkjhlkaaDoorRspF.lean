/- The document's reading of an answer: Values, one. -/
import Derived.Test.YtfgicmekkjhlkaaDoorRspE
namespace Go.Proofs.YtfgicmekkjhlkaaDoor
open Go.RowKit
set_option linter.unusedVariables false
set_option linter.unusedSimpArgs false

/-- The values of all fields of a name. -/
def isN (nm : ByteArray) (f : Fld) : Bool := f.name.toList == nm.toList
def valsF (nm : ByteArray) (L : List Fld) : List ByteArray := (L.filter (isN nm)).map (·.value)
theorem valsF_yes {nm : ByteArray} {L : List Fld} {f : Fld} (h : isN nm f = true) : valsF nm (L ++ [f]) = valsF nm L ++ [f.value] := by simp [valsF, h]
theorem valsF_no {nm : ByteArray} {L : List Fld} {f : Fld} (h : isN nm f = false) : valsF nm (L ++ [f]) = valsF nm L := by simp [valsF, h]
theorem valsF_len (nm : ByteArray) (L : List Fld) : (valsF nm L).length ≤ L.length := by simp [valsF]; exact List.length_filter_le _ _
def OwnS (w : World) (B : Nat) (v : Value) (L : List ByteArray) : Prop := w.ownsRow B 9 1 v L.length (L.map Value.string)
theorem str_info : (Tryd.prog.info? 9).map (fun i => (i.zero, i.size, i.bytes)) = some (some (.string ⟨#[]⟩), 1, 16) := by kernel_rfl
theorem OwnS.form {w : World} {B : Nat} {v : Value} {L : List ByteArray} (h : OwnS w B v L) : ∃ oa cap, v = .slice oa L.length cap ∧ ∀ i s, L[i]? = some s → ∃ g, oa = some ⟨g, 0, none⟩ ∧ w.cell? ⟨g, i, none⟩ = some (.string s) := by
  rcases h.2 with ⟨rfl, h0⟩ | ⟨g, cap, cur, rfl, hb, hg, h1, h2, _⟩
  · have : L = [] := List.length_eq_zero_iff.1 h0
    subst this
    exact ⟨none, 0, rfl, fun i s hs => by simp at hs⟩
  · refine ⟨_, cap, rfl, fun i s hs => ⟨g, rfl, ?_⟩⟩
    have := World.ownsRow.cells h (g := g) rfl i (.string s) (by rw [List.getElem?_map, hs]; rfl)
    rwa [Addr.add_lit, Nat.zero_add] at this
theorem take_fld {L : List Fld} {k : Nat} {x : Fld} (h : L[k]? = some x) : L.take (k + 1) = L.take k ++ [x] := by
  rw [List.take_add_one, h]; rfl
def ValsPost (nm : ByteArray) (L : List Fld) (w : World) (e : Ending) (w' : World) : Prop := ∃ v, e = .returned v ∧ OwnS w' w.heap.size v (valsF nm L) ∧ Below w.heap.size w w'
set_option maxRecDepth 100000 in
set_option maxHeartbeats 1000000 in
theorem vals_any (oa : Option Addr) (n cap : Nat) (L : List Fld) (nm : ByteArray) (hn : L.length = n) (hn30 : n ≤ 100000) (w : World) (hf : FieldsN w oa L) :
    Calls Tryd.prog 48 #[.slice oa n cap, .string nm] w (ValsPost nm L w) := by
  have HN := Lib.hid hn
  have HF := Lib.hid hf
  obtain ⟨i0, hi0, hz0, hz1, hz2⟩ := info_parts str_info
  have HI := Lib.hid hi0
  have HZ0 := Lib.hid hz0
  have HZ1 := Lib.hid hz1
  have HZ2 := Lib.hid hz2
  clear hi0 hz0 hz1 hz2 hf hn
  go_enter Tryd.func48, Tryd.ntmps48
  go_wp2_with fail
  go_loopw [5, 6] (fun oo ii wr => ∃ (k : Nat) (vv : Value), oo = vv ∧ ii = .int .i64 k ∧ k ≤ n ∧ OwnS wr w.heap.size vv (valsF nm (L.take k)) ∧ Below w.heap.size w wr) (fun _ ii _ => n - (intOf ii).toNat)
  case atStart => exact ⟨0, _, rfl, rfl, Nat.zero_le _, World.ownsRow_nil _ _ _ _, Below.refl _ _⟩
  case round =>
    obtain ⟨k, vv, hvv, rfl, hk, hown, hb⟩ := hrel
    obtain rfl := hvv.symm
    have HO := Lib.hid hown
    have HB := Lib.hid hb
    clear hvv hown hb
    by_cases hlt : k < n
    · have q4 : decide ((k : Int) < (n : Int)) = true := decide_eq_true (by omega)
      have q5 : (k : Int) < (n : Int) := by omega
      have hw8 : IntKind.i64.wrap ((k : Int) + 1) = (k : Int) + 1 := IntWalk.i64_in _ (by omega)
      obtain ⟨x, hx⟩ : ∃ x, L[k]? = some x := ⟨L[k]'(by rw [HN.out]; exact hlt), List.getElem?_eq_getElem _⟩
      have HTK := Lib.hid (take_fld hx)
      obtain ⟨b, o, rfl, c0, c1, c2⟩ := (HF.out.below HB.out) k x hx
      have hvl := valsF_len nm (L.take k)
      have htl : (L.take k).length ≤ k := List.length_take_le _ _
      cases hq : isN nm x
      · have hq' : (x.name.toList == nm.toList) = false := hq
        have HO3 := Lib.hid (show OwnS wr w.heap.size vv (valsF nm (L.take (k + 1))) from by rw [HTK.out, valsF_no hq]; exact HO.out)
        go_wp2_with fail
        go_roundw
        case rel => exact ⟨k + 1, vv, rfl, by go_num, by omega, HO3.out, HB.out⟩
        case measure => simp [intOf]; omega
      · have hq' : (x.name.toList == nm.toList) = true := hq
        have HVY := Lib.hid (valsF_yes (L := L.take k) hq)
        obtain ⟨xn, xv, xb⟩ := x
        simp only at c0 c1 c2 hq' HVY HTK
        have hc1 : ∀ u ∈ [Value.string xv], u.oneCell' = true := by intro u hu; simp at hu; subst hu; rfl
        have hc2 : (valsF nm (L.take k)).length + 1 ≤ maxLen := by unfold maxLen; omega
        have hc3 : ((valsF nm (L.take k)).length + 1) * 16 ≤ 140737488355328 := by omega
        have HC4 := Lib.hid (HB.out.alloc HB.out.size (.cells #[.string xv] 9)).size
        generalize valsF nm (L.take k) = V at HO HVY hc2 hc3
        clear hvl htl hq
        go_wp2_with (at_builtin; refine wpList_append_own_at _ rfl _ _ 82 rfl w.heap.size 9 i0 _ 1 16 Tryd.underlying82 HI.out HZ0.out HZ1.out HZ2.out rfl (by omega) vv _ _ rfl (World.ownsRow.alloc HO.out _) ⟨wr.heap.size, 0, none⟩ 1 1 [Value.string xv] rfl rfl (cells_new wr [Value.string xv] _) hc1 hc2 hc3 HC4.out ?_; intro v3 w4 hown3 hg3 _ _; clear hc1 hc2 hc3)
        have B3 := Lib.hid ((HB.out.alloc HB.out.size _).grown hg3 HC4.out (fun q hq => (World.ownsRow.lt HO.out q hq).1))
        have HO3 := Lib.hid (show OwnS w4 w.heap.size v3 (valsF nm (L.take (k + 1))) from by
          rw [HTK.out, HVY.out]
          unfold OwnS
          rw [List.length_append, List.map_append]
          exact hown3)
        clear hg3 hown3
        go_wp2_with fail
        go_roundw
        case rel => exact ⟨k + 1, v3, rfl, by go_num, by omega, HO3.out, B3.out⟩
        case measure => simp [intOf]; omega
    · have q4 : decide ((k : Int) < (n : Int)) = false := decide_eq_false (by omega)
      have q5 : ¬ ((k : Int) < (n : Int)) := by omega
      obtain rfl : k = n := by omega
      have HO3 := Lib.hid (show OwnS wr w.heap.size vv (valsF nm L) from by
        have := HO.out
        rwa [List.take_of_length_le (by rw [HN.out]; exact Nat.le_refl _)] at this)
      go_wp2_with fail
      go_ret
      exact ⟨_, rfl, HO3.out, HB.out⟩
/-- A number's field, that stands at most once. -/
def oneF (V : List ByteArray) : Int × Bool := match V with
  | [] => (0, true)
  | [v] => (numI v.data.toList, numOk v.data.toList)
  | _ => (0, false)
set_option maxRecDepth 100000 in
theorem one_any (oa : Option Addr) (n cap : Nat) (L : List Fld) (nm : ByteArray) (hn : L.length = n) (hn30 : n ≤ 100000) (hl : ∀ f ∈ L, f.value.size ≤ maxLen) (w : World) (hf : FieldsN w oa L) :
    Calls Tryd.prog 42 #[.slice oa n cap, .string nm] w fun e w' => e = .returned (.tuple #[.int .i64 (oneF (valsF nm L)).1, .bool (oneF (valsF nm L)).2]) ∧ Below w.heap.size w w' := by
  have HV := Lib.hid (vals_any oa n cap L nm hn hn30 w hf)
  unfold ValsPost at HV
  have hvs : ∀ v ∈ valsF nm L, v.size ≤ maxLen := fun v hv => by
    obtain ⟨f, hf, rfl⟩ := List.mem_map.1 hv
    exact hl f (List.mem_filter.1 hf).1
  have hvl := valsF_len nm L
  generalize valsF nm L = V at HV hvs hvl ⊢
  go_enter Tryd.func42, Tryd.ntmps42
  go_wp2_with fail
  refine HV.out.mono ?_
  rintro e w1 ⟨v, rfl, ho, hb⟩
  have HB1 := Lib.hid hb
  obtain ⟨oa1, cap1, rfl, hc⟩ := ho.form
  cases V with
  | nil =>
    clear ho hb
    go_wp2_with fail
    refine bodyPost_ret (v := .tuple #[.int .i64 0, .bool true]) (by simp [results, Tryd.results42, go_sem]) rfl ⟨rfl, HB1.out⟩
  | cons v t =>
    cases t with
    | nil =>
      obtain ⟨g, rfl, hc0⟩ := hc 0 v rfl
      have HNU := Lib.hid (fun W => refNumber v W (hvs v (by simp)))
      clear ho hb hc hvs HV
      go_wp2_with fail
      refine (HNU.out _).mono ?_
      rintro e w2 ⟨rfl, rfl⟩
      go_wp2_with fail
      refine bodyPost_ret (v := .tuple #[.int .i64 (numI v.data.toList), .bool (numOk v.data.toList)]) (by simp [results, Tryd.results42, go_sem]) rfl ⟨rfl, HB1.out⟩
    | cons b t =>
      have hl2 : (((v :: b :: t).length : Nat) : Int) = (t.length : Int) + 2 := by simp; omega
      have q1 : (((v :: b :: t).length : Int) == 0) = false := by rw [hl2]; simp; omega
      have q2 : (((v :: b :: t).length : Int) == 1) = false := by rw [hl2]; simp; omega
      have HE := Lib.hid (show oneF (v :: b :: t) = (0, false) from rfl)
      clear ho hb hc HV hl2 hvl hvs
      generalize (v :: b :: t).length = m at q1 q2 ⊢
      go_wp2_with fail
      refine bodyPost_ret (v := .tuple #[.int .i64 0, .bool false]) (by simp [results, Tryd.results42, go_sem]) rfl ⟨by rw [HE.out], HB1.out⟩
#print axioms one_any
end Go.Proofs.YtfgicmekkjhlkaaDoor
