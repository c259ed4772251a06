/- The document's items: footmanref05.All. -/
import Derived.Test.YteceinojmdgmeaaGreatC47
import Derived.Test.YteceinojmdgmeaaGreatC26
namespace Go.Proofs.YteceinojmdgmeaaGreat
open Go.RowKit
set_option linter.unusedVariables false
set_option linter.unusedSimpArgs false

def OwnD (w : World) (B : Nat) (v : Value) (L : List Itm) : Prop := w.ownsRow B 63 4 v L.length (icells L)
theorem OwnD.step {w w' : World} {B : Nat} {v : Value} {L : List Itm} (h : OwnD w B v L) (hb : Below w.heap.size w w') : OwnD w' B v L := owns_below h hb
theorem OwnD.nil (w : World) (B : Nat) : OwnD w B (.slice none 0 0) [] := World.ownsRow_nil _ _ _ _
theorem OwnD.form {w : World} {B : Nat} {v : Value} {L : List Itm} (h : OwnD w B v L) : ∃ oa cap, v = .slice oa L.length cap ∧ ItemsN w oa L ∧ L.length ≤ cap ∧ cap ≤ maxLen := by
  rcases h.2 with ⟨rfl, h0⟩ | ⟨g, cap, cur, rfl, hb, hg, h1, h2, _⟩
  · have : L = [] := List.length_eq_zero_iff.1 h0
    subst this
    exact ⟨none, 0, rfl, (fun i x hx => by simp at hx), Nat.le_refl _, Nat.zero_le _⟩
  · refine ⟨_, cap, rfl, fun i x hx => ?_, h1, h2⟩
    obtain ⟨q1, q2, q3, q4⟩ := icells_get L i x hx
    have hc : ∀ j u, (icells L)[j]? = some u → w.cell? ⟨g, 0 + j, none⟩ = some u := fun j u hu => by
      have := h.cells (g := g) rfl j u hu
      rw [addr_add0] at this
      simpa using this
    exact ⟨g, 0, rfl, hc _ _ q1, hc _ _ q2, hc _ _ q3, hc _ _ q4⟩
theorem OwnD.app {w' : World} {B : Nat} {v : Value} {L : List Itm} {x : Itm} (h : w'.ownsRow B 63 4 v (L.length + 1) (icells L ++ x.cells)) : OwnD w' B v (L ++ [x]) := by
  unfold OwnD
  rw [icells_append, List.length_append]
  exact (by simpa [icells] using h)
theorem ditem_info : (Tryz.prog.info? 63).map (fun i => (i.zero, i.size, i.bytes)) = some (some (.agg #[.int .u8 0, .int .i64 0, .string ⟨#[]⟩, .string ⟨#[]⟩]), 4, 48) := by kernel_rfl
def DAllPost (bs : List Nat) (w : World) (e : Ending) (w' : World) : Prop :=
  ∃ v, e = .returned (.tuple #[v, .int .i64 ((allG bs).2 : Nat)]) ∧ OwnD w' w.heap.size v (allG bs).1 ∧ Below w.heap.size w w'
set_option maxRecDepth 100000 in
set_option maxHeartbeats 4000000 in
theorem dall_any (oa : Option Addr) (n cap : Nat) (bs : List Nat) (hn : bs.length = n) (hnc : n ≤ cap) (hn60 : n ≤ 100) (w : World) (hby : BytesN w oa bs) (hb256 : ∀ i, i < bs.length → bs.getD i 0 < 256) :
    Calls Tryz.prog 21 #[.slice oa n cap] w (DAllPost bs w) := by
  have HN := Lib.hid hn
  have HAG := Lib.hid (show allG bs = allA n [] (bs.drop 0) from by rw [← hn]; rfl)
  have HGI := Lib.hid (show ∀ a, a < n → ∀ W, Below w.heap.size w W → Calls Tryz.prog 35 #[.slice (Option.map (fun x => x.add a) oa) (n - a) (cap - a)] W fun e w' => e = .returned (.tuple #[.agg #[.int .u8 (((itemG (bs.drop a)).1.kind : Nat) : Int), .int .i64 (itemG (bs.drop a)).1.index, .string (itemG (bs.drop a)).1.name, .string (itemG (bs.drop a)).1.value], .int .i64 ((itemG (bs.drop a)).2.1 : Nat), .int .i64 ((itemG (bs.drop a)).2.2 : Nat)]) ∧ Below W.heap.size W w' from fun a ha W hW => dget_any _ (n - a) (cap - a) (bs.drop a) (by rw [List.length_drop, hn]) (by omega) (by omega) W ((by have := bytes_from hn hnc hby a (by omega); rw [if_neg (by omega)] at this; exact this : BytesN w _ _).below hW) (drop_256 hb256 a))
  obtain ⟨i0, hi0, hz0, hz1, hz2⟩ := info_parts ditem_info
  have HI := Lib.hid hi0
  have HZ0 := Lib.hid hz0
  have HZ1 := Lib.hid hz1
  have HZ2 := Lib.hid hz2
  clear hi0 hz0 hz1 hz2 hn hby hb256
  go_enter Tryz.func21, Tryz.ntmps21
  go_wp2_with fail
  go_loopw [4, 5] (fun ov av wr => ∃ (a f : Nat) (L : List Itm) (vv : Value), ov = vv ∧ av = .int .i64 a ∧ a ≤ n ∧ n - a ≤ f ∧ L.length + (n - a) ≤ n ∧ allG bs = allA f L (bs.drop a) ∧ OwnD wr w.heap.size vv L ∧ Below w.heap.size w wr) (fun _ av _ => n - (intOf av).toNat)
  case atStart => exact ⟨0, n, [], _, rfl, rfl, Nat.zero_le _, by omega, by simp, HAG.out, OwnD.nil _ _, Below.refl _ _⟩
  case round =>
    obtain ⟨a, f, L, vv, hvv, rfl, han, hf, hLn, hag, hown, hb⟩ := hrel
    obtain rfl := hvv.symm
    have HAR := Lib.hid hag
    have HO := Lib.hid hown
    have HB := Lib.hid hb
    clear hag hown hb hvv HAG
    by_cases hlt : a < n
    · have hpi : decide ((a : Int) < (n : Int)) = true := decide_eq_true (by omega)
      have hpi2 : (a : Int) < (n : Int) := by omega
      obtain ⟨f, rfl⟩ : ∃ f', f = f' + 1 := ⟨f - 1, by omega⟩
      have HDL := Lib.hid (show (bs.drop a).length = n - a from by rw [List.length_drop, HN.out])
      have HST := Lib.hid (HAR.out.trans (allA_step f L (bs.drop a) (by intro h; have := HDL.out; rw [h] at this; simp at this; omega)))
      have hok := itemG_ok (bs.drop a)
      rw [HDL.out] at hok
      rw [List.drop_drop] at HST
      have hgi := HGI.out a hlt
      generalize itemG (bs.drop a) = g at HST hok hgi
      obtain ⟨⟨kd, ix, nm, vl⟩, k, er⟩ := g
      simp only at HST hok hgi
      have HOK := Lib.hid hok
      have HG := Lib.hid hgi
      clear hok hgi
      have hx1 : (0 : Int) ≤ (a : Int) := by omega
      have hx2 : (a : Int) ≤ (n : Int) := by omega
      have hx3 : (n : Int) ≤ (cap : Int) := by omega
      have hca : ¬ cap = a := by omega
      have hca2 : (cap == a) = false := by simp; omega
      go_wp2_with fail
      refine (HG.out _ HB.out).mono ?_
      rintro e w1 ⟨rfl, hb⟩
      have HO1 := Lib.hid (HO.out.step hb)
      have HB1 := Lib.hid (HB.out.trans (hb.mono HB.out.size))
      have HX := Lib.hid (KRow.new w1 kd ix nm vl)
      have HO2 := Lib.hid (HO1.out.step ((Below.refl w1.heap.size w1).alloc (Nat.le_refl _) (.cells #[.int .u8 (kd : Int), .int .i64 ix, .string nm, .string vl] 63)))
      have HB2 := Lib.hid (HB1.out.alloc HB1.out.size (.cells #[.int .u8 (kd : Int), .int .i64 ix, .string nm, .string vl] 63))
      clear hb HB HO HG
      by_cases her : er = 0
      · subst her
        obtain ⟨hk1, hk2⟩ := HOK.out rfl
        have HST2 := Lib.hid (HST.out.trans (if_neg (fun h => h rfl)))
        have hw1 : IntKind.i64.wrap ((a : Int) + (k : Int)) = ((a + k : Nat) : Int) := IntWalk.i64_in _ (by omega)
        go_upto_region 5 with fail
        generalize w1.alloc (.cells #[.int .u8 (kd : Int), .int .i64 ix, .string nm, .string vl] 63) = w2 at HX HO2 HB2 ⊢
        have x0 := HX.out.c0
        have x1 := HX.out.c1
        have x2 := HX.out.c2
        have x3 := HX.out.c3
        have HONE := Lib.hid (show ∀ u ∈ [Value.int .u8 (kd : Int), .int .i64 ix, .string nm, .string vl], u.oneCell' = true from by intro u hu; simp at hu; rcases hu with rfl | rfl | rfl | rfl <;> rfl)
        have HSZ := Lib.hid (HB2.out.alloc HB2.out.size (.cells #[.int .u8 (kd : Int), .int .i64 ix, .string nm, .string vl] 63)).size
        go_wp2_with (at_builtin; refine wpList_append_own_at _ rfl _ _ 60 rfl w.heap.size 63 i0 _ 4 48 Tryz.underlying60 HI.out HZ0.out HZ1.out HZ2.out rfl (by omega) vv _ _ rfl (World.ownsRow.alloc HO2.out _) ⟨w2.heap.size, 0, none⟩ 1 1 [Value.int .u8 (kd : Int), .int .i64 ix, .string nm, .string vl] rfl rfl (cells_new w2 [Value.int .u8 (kd : Int), .int .i64 ix, .string nm, .string vl] _) HONE.out (by unfold maxLen; omega) (by omega) HSZ.out ?_; intro v3 w3 hown3 hg3 _ _; have HO3 := Lib.hid (OwnD.app (x := ⟨kd, ix, nm, vl⟩) hown3); have HB3 := Lib.hid ((HB2.out.alloc HB2.out.size _).grown hg3 HSZ.out (fun q hq => (World.ownsRow.lt HO2.out q hq).1)); clear hown3 hg3)
        exact ⟨⟨a + k, f, L ++ [⟨kd, ix, nm, vl⟩], v3, rfl, rfl, by omega, by omega, by simp; omega, HST2.out, HO3.out, HB3.out⟩, by simp [intOf]; omega⟩
      · have q0 : ((er : Int) != 0) = true := by simp; omega
        have HE := Lib.hid (HST.out.trans (if_pos her))
        go_wp2_with fail
        refine bodyPost_ret (v := .tuple #[.slice none 0 0, .int .i64 (er : Int)]) (by simp [results, Tryz.results21, go_sem]) rfl ⟨_, by rw [HE.out], by rw [HE.out]; exact OwnD.nil _ _, HB2.out⟩
    · have hpi : decide ((a : Int) < (n : Int)) = false := decide_eq_false (by omega)
      have hpi2 : ¬ ((a : Int) < (n : Int)) := by omega
      have HE := Lib.hid (show allG bs = (L, 0) from by rw [HAR.out, List.drop_of_length_le (by rw [HN.out]; omega), allA_nil])
      go_wp2_with fail
      refine bodyPost_ret (v := .tuple #[vv, .int .i64 0]) (by simp [results, Tryz.results21, go_sem]) rfl ⟨_, by rw [HE.out]; rfl, by rw [HE.out]; exact HO.out, HB.out⟩
end Go.Proofs.YteceinojmdgmeaaGreat

