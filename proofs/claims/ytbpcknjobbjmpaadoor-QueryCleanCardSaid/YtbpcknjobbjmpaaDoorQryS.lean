/- Pairs of the program's and of the document's; two lists compared; an argument of pairs opened. -/
import Derived.Test.YtbpcknjobbjmpaaDoorQryE
import Derived.Test.YtbpcknjobbjmpaaDoorKit
import Derived.Laws.LoneSync
import Derived.Lib.SmallJoins
namespace Go.Proofs.YtbpcknjobbjmpaaDoor
open Go.RowKit
set_option linter.unusedVariables false
set_option linter.unusedSimpArgs false

theorem rpair_info : (Tryd.prog.info? 60).map (fun i => (i.zero, i.size, i.bytes)) = some (some (.agg #[.string ⟨#[]⟩, .string ⟨#[]⟩]), 2, 32) := by kernel_rfl

def OwnPost (L : List Pr) (w : World) (e : Ending) (w' : World) : Prop := ∃ v, e = .returned v ∧ OwnP 104 w' w.heap.size v L ∧ Below w.heap.size w w'
set_option maxRecDepth 100000 in
set_option maxHeartbeats 4000000 in
theorem own_any (oa : Option Addr) (n cap : Nat) (L : List Pr) (hn : L.length = n) (hl : n ≤ 1000) (w : World) (hf : PairsN w oa L) : Calls Tryd.prog 33 #[.slice oa n cap] w (OwnPost L w) := by
  have HF := Lib.hid hf
  obtain ⟨i0, hi0, hz0, hz1, hz2⟩ := info_parts pair_info
  have HI := Lib.hid hi0
  have HZ0 := Lib.hid hz0
  have HZ1 := Lib.hid hz1
  have HZ2 := Lib.hid hz2
  clear hi0 hz0 hz1 hz2 hf
  go_enter Tryd.func33, Tryd.ntmps33
  go_wp2_with fail
  go_loopw [3, 4] (fun ov ii wr => ∃ (k : Nat) (vv : Value), ov = vv ∧ ii = .int .i64 k ∧ k ≤ n ∧ OwnP 104 wr w.heap.size vv (L.take k) ∧ Below w.heap.size w wr) (fun _ ii _ => n - (intOf ii).toNat)
  case atStart => exact ⟨0, _, rfl, rfl, by omega, OwnP.nil _ _ _, Below.refl _ _⟩
  case round =>
    obtain ⟨k, v, hv, rfl, hk, hown, hb⟩ := hrel
    obtain rfl := hv.symm
    have HO := Lib.hid hown
    have HB := Lib.hid hb
    clear hown hb hv
    by_cases hlt : k < n
    · have q4 : decide ((k : Int) < (n : Int)) = true := decide_eq_true (by omega)
      have q5 : (k : Int) < (n : Int) := by omega
      have hw5 : IntKind.i64.wrap ((k : Int) + 1) = (k : Int) + 1 := IntWalk.i64_in _ (by omega)
      obtain ⟨p, hpk⟩ : ∃ p, L[k]? = some p := ⟨L[k]'(by omega), List.getElem?_eq_getElem _⟩
      obtain ⟨b, o, rfl, c1, c2⟩ := (HF.out.below HB.out) k p hpk
      have HST := Lib.hid (show L.take (k + 1) = L.take k ++ [p] from by rw [List.take_add_one, hpk]; rfl)
      have hml : (L.take k).length = k := by rw [List.length_take]; omega
      have hc1 : ∀ u ∈ [Value.string p.k, .string p.v], u.oneCell' = true := by intro u hu; simp at hu; rcases hu with rfl | rfl <;> rfl
      generalize L.take k = T at HO HST hml
      have hc2 : T.length + 1 ≤ maxLen := by unfold maxLen; omega
      have hc3 : (T.length + 1) * 32 ≤ 140737488355328 := by omega
      have HSZ := HB.out.size
      go_wp2_with (at_builtin; refine wpList_append_own_at _ rfl _ _ 64 rfl w.heap.size 104 i0 _ 2 32 Tryd.underlying64 HI.out HZ0.out HZ1.out HZ2.out rfl (by omega) v _ _ rfl (World.ownsRow.alloc HO.out _) ⟨wr.heap.size, 0, none⟩ 1 1 [Value.string p.k, .string p.v] rfl rfl (cells_new wr [Value.string p.k, .string p.v] _) hc1 hc2 hc3 (by simp; omega) ?_; intro v3 w4 hown3 hg3 _ _; clear hc1 hc2 hc3)
      have B4 := Lib.hid ((HB.out.alloc HB.out.size _).grown hg3 (by have := HB.out.size; simp; omega) (fun q hq => (World.ownsRow.lt HO.out q hq).1))
      have HO4 := Lib.hid (OwnP.app (x := p) hown3)
      clear hg3 hown3
      refine ⟨⟨k + 1, _, rfl, rfl, hlt, by rw [HST.out]; exact HO4.out, B4.out⟩, ?_⟩
      simp [intOf]
      omega
    · have q4 : decide ((k : Int) < (n : Int)) = false := decide_eq_false (by omega)
      have hall : L.take k = L := List.take_of_length_le (by omega)
      rw [hall] at HO
      go_wp2_with fail
      go_ret
      exact ⟨_, rfl, HO.out, HB.out⟩

def BackPost (L : List Pr) (w : World) (e : Ending) (w' : World) : Prop := ∃ v, e = .returned v ∧ OwnP 60 w' w.heap.size v L ∧ Below w.heap.size w w'
set_option maxRecDepth 100000 in
set_option maxHeartbeats 4000000 in
theorem back_any (oa : Option Addr) (n cap : Nat) (L : List Pr) (hn : L.length = n) (hl : n ≤ 1000) (w : World) (hf : PairsN w oa L) : Calls Tryd.prog 36 #[.slice oa n cap] w (BackPost L w) := by
  have HF := Lib.hid hf
  obtain ⟨i0, hi0, hz0, hz1, hz2⟩ := info_parts rpair_info
  have HI := Lib.hid hi0
  have HZ0 := Lib.hid hz0
  have HZ1 := Lib.hid hz1
  have HZ2 := Lib.hid hz2
  clear hi0 hz0 hz1 hz2 hf
  go_enter Tryd.func36, Tryd.ntmps36
  go_wp2_with fail
  go_loopw [3, 4] (fun ov ii wr => ∃ (k : Nat) (vv : Value), ov = vv ∧ ii = .int .i64 k ∧ k ≤ n ∧ OwnP 60 wr w.heap.size vv (L.take k) ∧ Below w.heap.size w wr) (fun _ ii _ => n - (intOf ii).toNat)
  case atStart => exact ⟨0, _, rfl, rfl, by omega, OwnP.nil _ _ _, Below.refl _ _⟩
  case round =>
    obtain ⟨k, v, hv, rfl, hk, hown, hb⟩ := hrel
    obtain rfl := hv.symm
    have HO := Lib.hid hown
    have HB := Lib.hid hb
    clear hown hb hv
    by_cases hlt : k < n
    · have q4 : decide ((k : Int) < (n : Int)) = true := decide_eq_true (by omega)
      have q5 : (k : Int) < (n : Int) := by omega
      have hw5 : IntKind.i64.wrap ((k : Int) + 1) = (k : Int) + 1 := IntWalk.i64_in _ (by omega)
      obtain ⟨p, hpk⟩ : ∃ p, L[k]? = some p := ⟨L[k]'(by omega), List.getElem?_eq_getElem _⟩
      obtain ⟨b, o, rfl, c1, c2⟩ := (HF.out.below HB.out) k p hpk
      have HST := Lib.hid (show L.take (k + 1) = L.take k ++ [p] from by rw [List.take_add_one, hpk]; rfl)
      have hml : (L.take k).length = k := by rw [List.length_take]; omega
      have hc1 : ∀ u ∈ [Value.string p.k, .string p.v], u.oneCell' = true := by intro u hu; simp at hu; rcases hu with rfl | rfl <;> rfl
      generalize L.take k = T at HO HST hml
      have hc2 : T.length + 1 ≤ maxLen := by unfold maxLen; omega
      have hc3 : (T.length + 1) * 32 ≤ 140737488355328 := by omega
      have HSZ := HB.out.size
      go_wp2_with (at_builtin; refine wpList_append_own_at _ rfl _ _ 58 rfl w.heap.size 60 i0 _ 2 32 Tryd.underlying58 HI.out HZ0.out HZ1.out HZ2.out rfl (by omega) v _ _ rfl (World.ownsRow.alloc HO.out _) ⟨wr.heap.size, 0, none⟩ 1 1 [Value.string p.k, .string p.v] rfl rfl (cells_new wr [Value.string p.k, .string p.v] _) hc1 hc2 hc3 (by simp; omega) ?_; intro v3 w4 hown3 hg3 _ _; clear hc1 hc2 hc3)
      have B4 := Lib.hid ((HB.out.alloc HB.out.size _).grown hg3 (by have := HB.out.size; simp; omega) (fun q hq => (World.ownsRow.lt HO.out q hq).1))
      have HO4 := Lib.hid (OwnP.app (x := p) hown3)
      clear hg3 hown3
      refine ⟨⟨k + 1, _, rfl, rfl, hlt, by rw [HST.out]; exact HO4.out, B4.out⟩, ?_⟩
      simp [intOf]
      omega
    · have q4 : decide ((k : Int) < (n : Int)) = false := decide_eq_false (by omega)
      have hall : L.take k = L := List.take_of_length_le (by omega)
      rw [hall] at HO
      go_wp2_with fail
      go_ret
      exact ⟨_, rfl, HO.out, HB.out⟩

set_option maxRecDepth 100000 in
set_option maxHeartbeats 4000000 in
theorem samePairs_any (oa ob : Option Addr) (n cap cap' : Nat) (L : List Pr) (hn : L.length = n) (hl : n ≤ 1000) (w : World) (ha : PairsN w oa L) (hb : PairsN w ob L) :
    Calls Tryd.prog 35 #[.slice oa n cap, .slice ob n cap'] w fun e w' => e = .returned (.bool true) ∧ Below w.heap.size w w' := by
  have HA := Lib.hid ha
  have HB := Lib.hid hb
  clear ha hb
  go_enter Tryd.func35, Tryd.ntmps35
  go_wp2_with fail
  go_loopw [5] (fun ii wr => ∃ k : Nat, ii = .int .i64 k ∧ k ≤ n ∧ Below w.heap.size w wr) (fun ii _ => n - (intOf ii).toNat)
  case atStart => exact ⟨0, rfl, by omega, Below.refl _ _⟩
  case round =>
    obtain ⟨k, rfl, hk, hbw⟩ := hrel
    have HBW := Lib.hid hbw
    clear hbw
    by_cases hlt : k < n
    · have q4 : decide ((k : Int) < (n : Int)) = true := decide_eq_true (by omega)
      have q5 : (k : Int) < (n : Int) := by omega
      have hw5 : IntKind.i64.wrap ((k : Int) + 1) = (k : Int) + 1 := IntWalk.i64_in _ (by omega)
      obtain ⟨p, hpk⟩ : ∃ p, L[k]? = some p := ⟨L[k]'(by omega), List.getElem?_eq_getElem _⟩
      obtain ⟨b, o, rfl, c1, c2⟩ := (HA.out.below HBW.out) k p hpk
      obtain ⟨b', o', rfl, d1, d2⟩ := (HB.out.below HBW.out) k p hpk
      go_upto_region 6 with fail
      go_region
      all_goals (
        go_wp2_with fail
        refine ⟨⟨k + 1, rfl, hlt, HBW.out.drew⟩, ?_⟩
        simp [intOf]
        omega)
    · have q4 : decide ((k : Int) < (n : Int)) = false := decide_eq_false (by omega)
      go_wp2_with fail
      go_ret
      exact ⟨rfl, HBW.out⟩
section
open Go.Joins Go.ChangeShapes Go.WideShapes Go.Deep
theorem rpair_struct : ∃ f0 f1 : Field, Tryd.prog.underlying 60 = some (.struct #[f0, f1]) ∧ f0.offset = 0 ∧ f1.offset = 1 ∧
    Tryd.prog.underlying f0.type = some .string ∧ Tryd.prog.underlying f1.type = some .string ∧ Tryd.prog.cellsOf f0.type = 1 ∧ Tryd.prog.cellsOf f1.type = 1 ∧ Tryd.prog.cellsOf 60 = 2 :=
  ⟨_, _, Tryd.underlying60, rfl, rfl, Tryd.underlying9, Tryd.underlying9, by kernel_rfl, by kernel_rfl, by kernel_rfl⟩
theorem trod_two {H : Type} {enc : TypeId × Value → H} {P : Program} {w : World} {base : Nat} {spare : Nat → Bool} {held : Bool} {t : TypeId} {f0 f1 : Field} {fuel : Nat} {cs : List Value} {x : DataW H × List MemPlace} (ht : P.underlying t = some (.struct #[f0, f1])) (h : DataW.trod enc P w base spare held fuel t cs = some x) :
    ∃ y0 y1 n, DataW.trod enc P w base spare held n f0.type ((cs.drop f0.offset).take (P.cellsOf f0.type)) = some y0 ∧
      DataW.trod enc P w base spare held n f1.type ((cs.drop f1.offset).take (P.cellsOf f1.type)) = some y1 := by
  obtain ⟨xs, n, _, rfl, hl, hlen, hf⟩ := DataW.trod_struct ht h
  match xs, hlen with
  | [y0, y1], _ => exact ⟨y0, y1, n, by simpa using hf 0 f0 rfl, by simpa using hf 1 f1 rfl⟩
set_option maxRecDepth 100000 in
theorem opened_pairs {H : Type} {enc : TypeId × Value → H} {W : World} {base fuel : Nat} {held : Bool} {v : Value} {x : DataW H × List MemPlace} (h : DataW.trod enc Tryd.prog W base (fun _ => true) held fuel 58 [v] = some x) :
    ∃ (oa : Option Addr) (n cap : Nat) (L : List Pr), v = .slice oa n cap ∧ L.length = n ∧ n ≤ cap ∧ PairsN W oa L := by
  obtain ⟨f0, f1, he, o0, o1, u0, u1, c0, c1, ce⟩ := rpair_struct
  rcases open_slice Tryd.underlying58 h with ⟨hcs, _⟩ | ⟨a, len, cap, m, n, D, Pl, hcs, hb, hl, hm, hmm, _, hx⟩
  · obtain rfl := (List.cons.inj hcs).1
    exact ⟨none, 0, 0, [], rfl, rfl, Nat.le_refl _, fun i f hf => by simp at hf⟩
  · obtain rfl := (List.cons.inj hcs).1
    have hmc : m = cap := by simpa using hmm
    have each : ∀ i, i < len → ∃ f : Pr, W.cell? (a.add (i * 2)) = some (.string f.k) ∧ W.cell? (a.add (i * 2 + 1)) = some (.string f.v) := by
      intro i hi
      obtain ⟨cs', h1, h2⟩ := hx i (by omega)
      rw [ce] at h1
      obtain ⟨_, hlen, hcell⟩ := World.cells?_some h1
      obtain ⟨y0, y1, k, g0, g1⟩ := trod_two he h2
      match cs', hlen with
      | [v0, v1], _ =>
        simp [o0, o1, c0, c1] at g0 g1
        have e0 := hcell 0 (by omega)
        have e1 := hcell 1 (by omega)
        rw [Deep.add_add] at e0 e1
        obtain ⟨s0, k0, _, _⟩ := DataW.trod_string u0 g0
        obtain ⟨s1, k1, _, _⟩ := DataW.trod_string u1 g1
        obtain rfl := (List.cons.inj k0).1
        obtain rfl := (List.cons.inj k1).1
        exact ⟨⟨s0, s1⟩, by simpa using e0, by simpa using e1⟩
    haveI : Inhabited Pr := ⟨Pr.nil⟩
    obtain ⟨g, hg⟩ := choose_lt each
    refine ⟨some a, len, cap, (List.range len).map g, rfl, by simp, hl, fun i f hf => ?_⟩
    have hil : i < len := by
      have := (List.getElem?_eq_some_iff.1 hf).1
      simpa using this
    have hfg : f = g i := by
      rw [List.getElem?_map, List.getElem?_range hil] at hf
      exact (Option.some.inj hf).symm
    subst hfg
    obtain ⟨q0, q1⟩ := hg i hil
    obtain ⟨z0, _⟩ := hg 0 (by omega)
    obtain ⟨_, _, _, _, hsp⟩ := World.shape?_of_cell? z0
    obtain ⟨b, o, s⟩ := a
    have hs : s = none := by simpa [Addr.add] using hsp
    subst hs
    have ea : ∀ j, ((⟨b, o, none⟩ : Addr).add j) = ⟨b, o + j, none⟩ := fun j => by unfold Addr.add; split <;> simp_all
    rw [ea] at q0 q1
    exact ⟨b, o, rfl, q0, q1⟩
end
#print axioms opened_pairs
end Go.Proofs.YtbpcknjobbjmpaaDoor
