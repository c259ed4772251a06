/- A key is found, pairs are printed: query.Find, query.Print. -/
import Derived.Test.YtbpcknjobbjmpaaDoorQryE
import Derived.Deep.RegionHeld3
import Derived.Deep.AppendLies
namespace Go.Proofs.YtbpcknjobbjmpaaDoor
open Go.RowKit
set_option linter.unusedVariables false
set_option linter.unusedSimpArgs false

def findT : List Pr → ByteArray → ByteArray × Bool
  | [], _ => (emS, false)
  | p :: l, key => if (p.k.toList == key.toList) = true then (p.v, true) else findT l key
set_option maxRecDepth 100000 in
set_option maxHeartbeats 4000000 in
theorem find_any (oa : Option Addr) (n cap : Nat) (L : List Pr) (hn : L.length = n) (hl : n ≤ 1000000) (key : ByteArray) (w : World) (hf : PairsN w oa L) :
    Calls Tryd.prog 48 #[.slice oa n cap, .string key] w fun e w' => e = .returned (.tuple #[.string (findT L key).1, .bool (findT L key).2]) ∧ Below w.heap.size w w' := by
  have HF := Lib.hid hf
  have HN := Lib.hid hn
  clear hf
  generalize hR : findT L key = R
  have HR := Lib.hid hR
  clear hR
  go_enter Tryd.func48, Tryd.ntmps48
  go_wp2_with fail
  go_loopw [10] (fun ii wr => ∃ (k : Nat), ii = .int .i64 k ∧ k ≤ n ∧ findT (L.drop k) key = R ∧ Below w.heap.size w wr) (fun ii _ => n - (intOf ii).toNat)
  case atStart => exact ⟨0, rfl, by omega, HR.out, Below.refl _ _⟩
  case round =>
    obtain ⟨k, rfl, hk, hd, hb⟩ := hrel
    have HB := Lib.hid hb
    have HD := Lib.hid hd
    clear hb hd HR
    by_cases hlt : k < n
    · have q4 : decide ((k : Int) < (n : Int)) = true := decide_eq_true (by omega)
      have q5 : (k : Int) < (n : Int) := by omega
      have hw5 : IntKind.i64.wrap ((k : Int) + 1) = (k : Int) + 1 := IntWalk.i64_in _ (by omega)
      obtain ⟨p, hpk⟩ : ∃ p, L[k]? = some p := ⟨L[k]'(by omega), List.getElem?_eq_getElem _⟩
      obtain ⟨b, o, rfl, c1, c2⟩ := (HF.out.below HB.out) k p hpk
      rw [drop_cons' hpk] at HD
      have hba := HB.out.alloc HB.out.size (.cells #[.string p.k, .string p.v] 104)
      have HBA := Lib.hid hba
      clear hba
      by_cases he : (p.k.toList == key.toList) = true
      · have HE := Lib.hid (show R = (p.v, true) from by have := HD.out; rw [findT, if_pos he] at this; exact this.symm)
        go_wp2_with fail
        refine bodyPost_ret (v := .tuple #[.string p.v, .bool true]) (by simp [results, Tryd.results48, go_sem]) rfl ⟨by rw [HE.out], HBA.out⟩
      · have he' : (p.k.toList == key.toList) = false := by simpa using he
        have HE := Lib.hid (show findT (L.drop (k + 1)) key = R from by have := HD.out; rw [findT, if_neg he] at this; exact this)
        go_wp2_with fail
        refine ⟨⟨k + 1, rfl, hlt, HE.out, HBA.out⟩, ?_⟩
        simp [intOf]
        omega
    · have q4 : decide ((k : Int) < (n : Int)) = false := decide_eq_false (by omega)
      have HE := Lib.hid (show R = (emS, false) from by have := HD.out; rw [List.drop_eq_nil_of_le (by rw [HN.out]; omega)] at this; exact this.symm)
      go_wp2_with fail
      refine bodyPost_ret (v := .tuple #[.string emS, .bool false]) (by simp [results, Tryd.results48, go_sem, emS]) rfl ⟨by rw [HE.out], HB.out⟩
/-- Texts in memory. -/
def StrsN (W : World) (oa : Option Addr) (L : List ByteArray) : Prop := ∀ i s, L[i]? = some s → ∃ g, oa = some ⟨g, 0, none⟩ ∧ W.cell? ⟨g, i, none⟩ = some (.string s)
theorem StrsN.below {W W' : World} {oa : Option Addr} {L : List ByteArray} (h : StrsN W oa L) (hn : Below W.heap.size W W') : StrsN W' oa L := by
  intro i s hi
  obtain ⟨a, ha, hc⟩ := h i s hi
  exact ⟨a, ha, (cell_eq (hn.block _ (World.block_lt_of_cell? _ _ hc))).trans hc⟩
def OwnS (w : World) (base : Nat) (v : Value) (L : List ByteArray) : Prop := w.ownsRow base 9 1 v L.length (L.map Value.string)
theorem string_info : (Tryd.prog.info? 9).map (fun i => (i.zero, i.size, i.bytes)) = some (some (.string ⟨#[]⟩), 1, 16) := by kernel_rfl
theorem OwnS.below {w w' : World} {B : Nat} {v : Value} {L : List ByteArray} (h : OwnS w B v L) (hb : Below w.heap.size w w') : OwnS w' B v L := owns_below h hb
theorem OwnS.mono {w : World} {B B' : Nat} {v : Value} {L : List ByteArray} (h : OwnS w B v L) (hb : B' ≤ B) : OwnS w B' v L := World.ownsRow.mono h hb
theorem OwnS.nil (w : World) (B : Nat) : OwnS w B (.slice none 0 0) [] := ⟨rfl, .inl ⟨rfl, rfl⟩⟩
theorem OwnS.form {w : World} {B : Nat} {v : Value} {L : List ByteArray} (h : OwnS w B v L) : ∃ oa cap, v = .slice oa L.length cap ∧ StrsN w oa L ∧ L.length ≤ cap := by
  rcases h.2 with ⟨rfl, h0⟩ | ⟨g, cap, cur, rfl, hb, hg, hn, hm, hs, ht⟩
  · exact ⟨none, 0, by rw [h0], fun i s hi => by rw [List.length_eq_zero_iff.1 h0] at hi; simp at hi, by omega⟩
  · refine ⟨some ⟨g, 0, none⟩, cap, rfl, fun i s hi => ⟨_, rfl, ?_⟩, hn⟩
    have := World.ownsRow.cells h (g := g) rfl i _ (by rw [List.getElem?_map, hi]; rfl)
    rwa [addr_add0] at this
theorem OwnS.snoc {w : World} {B : Nat} {v : Value} {L : List ByteArray} {s : ByteArray} (h : w.ownsRow B 9 1 v (L.length + 1) (L.map Value.string ++ [Value.string s])) : OwnS w B v (L ++ [s]) := by
  unfold OwnS
  rw [List.length_append, List.map_append]
  exact h
def joinS (L : List ByteArray) (c : UInt8) : ByteArray := strL (Lib.join (L.map (·.data.toList)) [c])
theorem join_any (c : UInt8) (w : World) (B : Nat) (v : Value) (L : List ByteArray) (h : OwnS w B v L) (hl : (joinS L c).size ≤ 140737488355328) (hL : L.length ≤ 1000000) :
    Calls Tryd.prog 55 #[v, .string ⟨#[c]⟩] w fun e w' => e = .returned (.string (joinS L c)) ∧ Below w.heap.size w w' := by
  rcases h.2 with ⟨rfl, h0⟩ | ⟨g, cap, cur, rfl, hb, hg, hn, hm, hs, ht⟩
  · rw [List.length_eq_zero_iff.1 h0]
    exact (Tryd.strings_Join_none none 0 ⟨#[c]⟩ w).mono fun e w' ⟨e1, e2⟩ => ⟨by rw [e1]; rfl, by rw [e2]; exact Below.refl _ _⟩
  · refine (Tryd.strings_Join g 0 cap L ⟨#[c]⟩ w (fun j x hx => ?_) (Array.getElem?_eq_some_iff.1 hg).1 (by omega) hn ?_).mono fun e w' ⟨e1, e2⟩ => ⟨e1, e2⟩
    · have := World.ownsRow.cells h (g := g) rfl j _ (by rw [List.getElem?_map, hx]; rfl)
      rw [addr_add0] at this
      rwa [Nat.zero_add]
    · unfold joinS at hl
      rw [strL_size] at hl
      exact hl
def encS (s : ByteArray) : ByteArray := bsB (encL (bytesU s))
theorem bsB_size (l : List Nat) : (bsB l).size = l.length := by show (l.map UInt8.ofNat).toArray.size = _; simp
theorem encS_le (s : ByteArray) : (encS s).size ≤ 3 * s.size := by
  unfold encS
  rw [bsB_size]
  have := encL_len (bytesU s)
  rw [bytesU_len] at this
  exact this
def pairS (p : Pr) : ByteArray := encS p.k ++ ⟨#[61]⟩ ++ encS p.v
def printT (L : List Pr) : ByteArray := joinS (L.map pairS) 38
theorem join_size (L : List ByteArray) (c : UInt8) (M : Nat) (h : ∀ x ∈ L, x.size ≤ M) : (joinS L c).size ≤ (M + 1) * L.length := by
  unfold joinS
  rw [strL_size]
  cases L with
  | nil => simp [Lib.join_nil]
  | cons x l =>
    rw [List.map_cons, Lib.join_length]
    have hl : ∀ l : List ByteArray, (∀ x ∈ l, x.size ≤ M) → Lib.lens (l.map (·.data.toList)) ≤ M * l.length := by
      intro l
      induction l with
      | nil => intro _; simp [Lib.lens]
      | cons y l ih =>
        intro hl
        have h1 := ih fun z hz => hl z (by simp [hz])
        have h2 := hl y (by simp)
        rw [sz] at h2
        have e : Lib.lens ((y :: l).map (·.data.toList)) = y.data.toList.length + Lib.lens (l.map (·.data.toList)) := by simp [Lib.lens]
        rw [e, List.length_cons, Nat.mul_succ]
        omega
    have h1 := hl (x :: l) h
    have e1 : ([c] : List UInt8).length = 1 := rfl
    rw [List.map_cons] at h1
    rw [e1, List.length_map, Nat.add_mul]
    simp only [List.length_cons] at h1 ⊢
    omega
end Go.Proofs.YtbpcknjobbjmpaaDoor
