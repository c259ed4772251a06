/- RepJ · RepK: joined by a program, for a claim has at most 60 files. -/
import Derived.Test.YteceinojmdgmeaaC32
import Derived.Test.YteceinojmdgmeaaC34
import Derived.Test.YteceinojmdgmeaaC35
/- repr.All, plain; items as a row of cells. -/
namespace Go.Proofs.Yteceinojmdgmeaa
open Go.RowKit
set_option linter.unusedVariables false
set_option linter.unusedSimpArgs false

theorem goParts_ok (bs : List Nat) : ∀ (ps : List Bool) (x : Itm) (a : Nat), a ≤ bs.length → (goParts bs ps x a).2.2 = 0 → a ≤ (goParts bs ps x a).2.1 ∧ (goParts bs ps x a).2.1 ≤ bs.length
  | [], x, a, ha, h => ⟨Nat.le_refl _, ha⟩
  | p :: ps, x, a, ha, h => by
    unfold goParts at h ⊢
    by_cases he : (textG (bs.drop a)).2.2 = 0
    · have hk := textG_ok _ he
      rw [List.length_drop] at hk
      rw [if_neg (by simpa using he)] at h ⊢
      have := goParts_ok bs ps _ _ (by omega) h
      omega
    · rw [if_pos he] at h
      exact absurd h he
theorem itemG_ok (bs : List Nat) (h : (itemG bs).2.2 = 0) : 1 ≤ (itemG bs).2.1 ∧ (itemG bs).2.1 ≤ bs.length := by
  cases bs with
  | nil => simp [itemG] at h
  | cons b l =>
    have hg := getN_ok (b :: l) (formB (kindN b)) (form_k4 (kindN b) (kind_le b)).2
    unfold itemG at h ⊢
    simp only at h ⊢
    by_cases h1 : (getN (b :: l) (formB (kindN b))).2.2 = 0
    · have h2 := hg h1
      rw [if_neg (by simpa using h1)] at h ⊢
      split at h
      · simp at h
      · rename_i h3
        rw [if_neg h3]
        have := goParts_ok (b :: l) _ _ _ h2.2.1 h
        omega
    · rw [if_pos h1] at h
      exact absurd h h1
/-- Items got one behind the other, behind the items L; f is fuel. -/
def allA : Nat → List Itm → List Nat → List Itm × Nat
  | 0, L, _ => (L, 0)
  | _ + 1, L, [] => (L, 0)
  | f + 1, L, b :: l => if (itemG (b :: l)).2.2 ≠ 0 then ([], (itemG (b :: l)).2.2) else allA f (L ++ [(itemG (b :: l)).1]) ((b :: l).drop (itemG (b :: l)).2.1)
theorem allA_nil (f : Nat) (L : List Itm) : allA f L [] = (L, 0) := by cases f <;> rfl
theorem allA_step (f : Nat) (L : List Itm) (bs : List Nat) (h : bs ≠ []) : allA (f + 1) L bs = if (itemG bs).2.2 ≠ 0 then ([], (itemG bs).2.2) else allA f (L ++ [(itemG bs).1]) (bs.drop (itemG bs).2.1) := by
  cases bs with
  | nil => exact absurd rfl h
  | cons b l => rfl
def allG (bs : List Nat) : List Itm × Nat := allA bs.length [] bs

def Itm.cells (x : Itm) : List Value := [.int .u8 (x.kind : Int), .int .i64 x.index, .string x.name, .string x.value]
def Itm.val (x : Itm) : Value := .agg #[.int .u8 (x.kind : Int), .int .i64 x.index, .string x.name, .string x.value]
def icells (L : List Itm) : List Value := L.flatMap Itm.cells
theorem icells_cons (f : Itm) (L : List Itm) : icells (f :: L) = f.cells ++ icells L := by simp [icells]
theorem icells_append (a b : List Itm) : icells (a ++ b) = icells a ++ icells b := by simp [icells]
theorem icells_len (L : List Itm) : (icells L).length = L.length * 4 := by
  induction L with
  | nil => rfl
  | cons f l ih => rw [icells_cons, List.length_append, ih, List.length_cons]; simp [Itm.cells]; omega
theorem icells_get (L : List Itm) : ∀ (i : Nat) (x : Itm), L[i]? = some x → (icells L)[i * 4]? = some (.int .u8 (x.kind : Int)) ∧ (icells L)[i * 4 + 1]? = some (.int .i64 x.index) ∧ (icells L)[i * 4 + 2]? = some (.string x.name) ∧ (icells L)[i * 4 + 3]? = some (.string x.value) := by
  induction L with
  | nil => intro i f h; simp at h
  | cons g l ih =>
    intro i f h
    cases i with
    | zero => simp at h; subst h; simp [icells, Itm.cells]
    | succ i =>
      have := ih i f (by simpa using h)
      rw [icells_cons, show (i + 1) * 4 = i * 4 + 1 + 1 + 1 + 1 from by omega]
      simpa [Itm.cells] using this
/-- Where items stand. -/
def ItemsN (W : World) (oa : Option Addr) (L : List Itm) : Prop := ∀ i x, L[i]? = some x → ∃ b o, oa = some ⟨b, o, none⟩ ∧ W.cell? ⟨b, o + i * 4, none⟩ = some (.int .u8 (x.kind : Int)) ∧ W.cell? ⟨b, o + i * 4 + 1, none⟩ = some (.int .i64 x.index) ∧ W.cell? ⟨b, o + i * 4 + 2, none⟩ = some (.string x.name) ∧ W.cell? ⟨b, o + i * 4 + 3, none⟩ = some (.string x.value)
theorem ItemsN.below {W W' : World} {oa : Option Addr} {L : List Itm} (h : ItemsN W oa L) (hb : Below W.heap.size W W') : ItemsN W' oa L := fun i x hx => by
  obtain ⟨b, o, e, h1, h2, h3, h4⟩ := h i x hx
  have hlt := World.block_lt_of_cell? _ _ h1
  refine ⟨b, o, e, ?_, ?_, ?_, ?_⟩
  · exact (cell_eq (a := ⟨b, _, none⟩) (hb.block b hlt)).trans h1
  · exact (cell_eq (a := ⟨b, _, none⟩) (hb.block b hlt)).trans h2
  · exact (cell_eq (a := ⟨b, _, none⟩) (hb.block b hlt)).trans h3
  · exact (cell_eq (a := ⟨b, _, none⟩) (hb.block b hlt)).trans h4
theorem addr_add0 (g j : Nat) : ((⟨g, 0, none⟩ : Addr).add j) = ⟨g, j, none⟩ := by unfold Addr.add; split <;> simp_all
def OwnI (w : World) (B : Nat) (v : Value) (L : List Itm) : Prop := w.ownsRow B 49 4 v L.length (icells L)
theorem OwnI.step {w w' : World} {B : Nat} {v : Value} {L : List Itm} (h : OwnI w B v L) (hb : Below w.heap.size w w') : OwnI w' B v L := owns_below h hb
theorem OwnI.mono {w : World} {B B' : Nat} {v : Value} {L : List Itm} (h : OwnI w B v L) (hb : B' ≤ B) : OwnI w B' v L := World.ownsRow.mono h hb
theorem OwnI.nil (w : World) (B : Nat) : OwnI w B (.slice none 0 0) [] := World.ownsRow_nil _ _ _ _
theorem OwnI.form {w : World} {B : Nat} {v : Value} {L : List Itm} (h : OwnI w B v L) : ∃ oa cap, v = .slice oa L.length cap ∧ ItemsN w oa L ∧ L.length ≤ cap ∧ cap ≤ maxLen ∧ (∀ a, oa = some a → B ≤ a.block ∧ a.block < w.heap.size) := by
  rcases h.2 with ⟨rfl, h0⟩ | ⟨g, cap, cur, rfl, hb, hg, h1, h2, _⟩
  · have : L = [] := List.length_eq_zero_iff.1 h0
    subst this
    exact ⟨none, 0, rfl, (fun i x hx => by simp at hx), Nat.le_refl _, Nat.zero_le _, fun a e => by cases e⟩
  · refine ⟨_, cap, rfl, fun i x hx => ?_, h1, h2, fun a e => by cases e; exact ⟨hb, (h.lt g rfl).2⟩⟩
    obtain ⟨q1, q2, q3, q4⟩ := icells_get L i x hx
    have hc : ∀ j u, (icells L)[j]? = some u → w.cell? ⟨g, 0 + j, none⟩ = some u := fun j u hu => by
      have := h.cells (g := g) rfl j u hu
      rw [addr_add0] at this
      simpa using this
    exact ⟨g, 0, rfl, hc _ _ q1, hc _ _ q2, hc _ _ q3, hc _ _ q4⟩
theorem OwnI.app {w' : World} {B : Nat} {v : Value} {L : List Itm} {x : Itm} (h : w'.ownsRow B 49 4 v (L.length + 1) (icells L ++ x.cells)) : OwnI w' B v (L ++ [x]) := by
  unfold OwnI
  rw [icells_append, List.length_append]
  exact (by simpa [icells] using h)
theorem item_info : (Try.prog.info? 49).map (fun i => (i.zero, i.size, i.bytes)) = some (some (.agg #[.int .u8 0, .int .i64 0, .string ⟨#[]⟩, .string ⟨#[]⟩]), 4, 48) := by kernel_rfl
end Go.Proofs.Yteceinojmdgmeaa


/- repr.All: the walk. -/
namespace Go.Proofs.Yteceinojmdgmeaa
open Go.RowKit
set_option linter.unusedVariables false
set_option linter.unusedSimpArgs false

def AllPost (bs : List Nat) (w : World) (e : Ending) (w' : World) : Prop :=
  ∃ v, e = .returned (.tuple #[v, .int .i64 ((allG bs).2 : Nat)]) ∧ OwnI w' w.heap.size v (allG bs).1 ∧ Below w.heap.size w w'
def lenV : Value → Nat
  | .slice _ n _ => n
  | _ => 0
set_option maxRecDepth 100000 in
set_option maxHeartbeats 4000000 in
theorem all_any (oa : Option Addr) (n cap : Nat) (bs : List Nat) (hn : bs.length = n) (hnc : n ≤ cap) (hn100 : n ≤ 1000000) (w : World) (hby : BytesN w oa bs) (hb256 : ∀ i, i < bs.length → bs.getD i 0 < 256) :
    Calls Try.prog 53 #[.slice oa n cap] w (AllPost bs w) := by
  have HN := Lib.hid hn
  have HBY := Lib.hid hby
  have H256 := Lib.hid hb256
  have HAG := Lib.hid (show allG bs = allA n [] bs from by rw [← hn]; rfl)
  obtain ⟨i0, hi0, hz0, hz1, hz2⟩ := info_parts item_info
  have HI := Lib.hid hi0
  have HZ0 := Lib.hid hz0
  have HZ1 := Lib.hid hz1
  have HZ2 := Lib.hid hz2
  clear hi0 hz0 hz1 hz2 hn hby hb256
  go_enter Try.func53, Try.ntmps53
  go_wp2_with fail
  go_loopw [0, 4] (fun bv ov wr => ∃ (oa' : Option Addr) (ln cp f : Nat) (R : List Nat) (L : List Itm) (vv : Value), bv = .slice oa' ln cp ∧ ov = vv ∧ R.length = ln ∧ L.length + ln ≤ n ∧ ln ≤ cp ∧ ln ≤ f ∧ BytesN w oa' R ∧ (∀ i, i < R.length → R.getD i 0 < 256) ∧ allG bs = allA f L R ∧ OwnI wr w.heap.size vv L ∧ Below w.heap.size w wr) (fun bv _ _ => lenV bv)
  case atStart => exact ⟨oa, n, cap, n, bs, [], _, rfl, rfl, HN.out, by simp, hnc, Nat.le_refl _, HBY.out, H256.out, HAG.out, OwnI.nil _ _, Below.refl _ _⟩
  case round =>
    obtain ⟨oa', ln, cp, f, R, L, vv, rfl, hvv, hR, hLn, hcp, hf, hby, h256, hag, hown, hb⟩ := hrel
    obtain rfl := hvv.symm
    have HRL := Lib.hid hR
    have HBR := Lib.hid hby
    have HR256 := Lib.hid h256
    have HAR := Lib.hid hag
    have HO := Lib.hid hown
    have HB := Lib.hid hb
    clear hR hby h256 hag hown hb hvv HBY H256 HAG HN
    by_cases hpos : 0 < ln
    · have hpi : (0 : Int) < (ln : Int) := by omega
      obtain ⟨f, rfl⟩ : ∃ f', f = f' + 1 := ⟨f - 1, by omega⟩
      have HST := Lib.hid (HAR.out.trans (allA_step f L R (by intro h; have := HRL.out; rw [h] at this; simp at this; omega)))
      have HOK := Lib.hid (itemG_ok R)
      have HGI := Lib.hid (show ∀ W, BytesN W oa' R → Calls Try.prog 79 #[.slice oa' ln cp] W fun e w' => e = .returned (.tuple #[.agg #[.int .u8 (((itemG R).1.kind : Nat) : Int), .int .i64 (itemG R).1.index, .string (itemG R).1.name, .string (itemG R).1.value], .int .i64 ((itemG R).2.1 : Nat), .int .i64 ((itemG R).2.2 : Nat)]) ∧ Below W.heap.size W w' from fun W hW => rget_any oa' ln cp R HRL.out hcp (by omega) W hW HR256.out)
      rw [HRL.out] at HOK
      generalize itemG R = g at HST HOK HGI
      obtain ⟨⟨kd, ix, nm, vl⟩, k, er⟩ := g
      simp only at HST HOK HGI
      go_wp2_with fail
      refine (HGI.out _ (HBR.out.below HB.out)).mono ?_
      rintro e w1 ⟨rfl, hb⟩
      have HO1 := Lib.hid (HO.out.step hb)
      have HB1 := Lib.hid (HB.out.trans (hb.mono HB.out.size))
      have HX := Lib.hid (IRow.new w1 kd ix nm vl)
      have HO2 := Lib.hid (HO1.out.step ((Below.refl w1.heap.size w1).alloc (Nat.le_refl _) (.cells #[.int .u8 (kd : Int), .int .i64 ix, .string nm, .string vl] 49)))
      have HB2 := Lib.hid (HB1.out.alloc HB1.out.size (.cells #[.int .u8 (kd : Int), .int .i64 ix, .string nm, .string vl] 49))
      clear hb HB HO HGI
      by_cases her : er = 0
      · subst her
        obtain ⟨hk1, hk2⟩ := HOK.out rfl
        have HST2 := Lib.hid (HST.out.trans (if_neg (fun h => h rfl)))
        go_upto_region 6 with fail
        generalize w1.alloc (.cells #[.int .u8 (kd : Int), .int .i64 ix, .string nm, .string vl] 49) = w2 at HX HO2 HB2 ⊢
        have x0 := HX.out.c0
        have x1 := HX.out.c1
        have x2 := HX.out.c2
        have x3 := HX.out.c3
        have HONE := Lib.hid (show ∀ u ∈ [Value.int .u8 (kd : Int), .int .i64 ix, .string nm, .string vl], u.oneCell' = true from by intro u hu; simp at hu; rcases hu with rfl | rfl | rfl | rfl <;> rfl)
        have HSZ := Lib.hid (HB2.out.alloc HB2.out.size (.cells #[.int .u8 (kd : Int), .int .i64 ix, .string nm, .string vl] 49)).size
        have hx1 : (0 : Int) ≤ (k : Int) := by omega
        have hx2 : (k : Int) ≤ (ln : Int) := by omega
        have hx3 : (ln : Int) ≤ (cp : Int) := by omega
        have HRD := Lib.hid (show (R.drop k).length = ln - k from by rw [List.length_drop, HRL.out])
        have HRD256 := Lib.hid (show ∀ i, i < (R.drop k).length → (R.drop k).getD i 0 < 256 from fun i hi => by
          rw [List.length_drop] at hi
          have := HR256.out (k + i) (by omega)
          simp only [List.getD_eq_getElem?_getD] at this ⊢
          rw [List.getElem?_drop]
          exact this)
        go_wp2_with (at_builtin; refine wpList_append_own_at _ rfl _ _ 84 rfl w.heap.size 49 i0 _ 4 48 Try.underlying84 HI.out HZ0.out HZ1.out HZ2.out rfl (by omega) vv _ _ rfl (World.ownsRow.alloc HO2.out _) ⟨w2.heap.size, 0, none⟩ 1 1 [Value.int .u8 (kd : Int), .int .i64 ix, .string nm, .string vl] rfl rfl (cells_new w2 [Value.int .u8 (kd : Int), .int .i64 ix, .string nm, .string vl] _) HONE.out (by unfold maxLen; omega) (by omega) HSZ.out ?_; intro v3 w3 hown3 hg3 _ _; have HO3 := Lib.hid (OwnI.app (x := ⟨kd, ix, nm, vl⟩) hown3); have HB3 := Lib.hid ((HB2.out.alloc HB2.out.size _).grown hg3 HSZ.out (fun q hq => (World.ownsRow.lt HO2.out q hq).1)); clear hown3 hg3)
        have HBD : BytesN w (if cp = k then oa' else Option.map (fun x => x.add k) oa') (R.drop k) := by
          by_cases hck : cp = k
          · intro i hi
            rw [HRD.out] at hi
            omega
          · rw [if_neg hck]
            obtain ⟨b, o, rfl, _⟩ := HBR.out.at (i := 0) (by rw [HRL.out]; exact hpos)
            have := HBR.out.part k (ln - k)
            rw [List.take_of_length_le (by rw [HRD.out]; exact Nat.le_refl _)] at this
            have e : Option.map (fun x => x.add k) (some (⟨b, o, none⟩ : Addr)) = some ⟨b, o + k, none⟩ := by simp [Addr.add]; omega
            rw [e]
            exact this
        exact ⟨⟨_, ln - k, cp - k, f, R.drop k, L ++ [⟨kd, ix, nm, vl⟩], v3, rfl, rfl, HRD.out, by simp; omega, by omega, by omega, HBD, HRD256.out, HST2.out, HO3.out, HB3.out⟩, by simp only [lenV]; omega⟩
      · have q0 : ((er : Int) != 0) = true := by simp; omega
        have HE := Lib.hid (HST.out.trans (if_pos her))
        go_wp2_with fail
        refine bodyPost_ret (v := .tuple #[.slice none 0 0, .int .i64 (er : Int)]) (by simp [results, Try.results53, go_sem]) rfl ⟨_, by rw [HE.out], by rw [HE.out]; exact OwnI.nil _ _, HB2.out⟩
    · obtain rfl : ln = 0 := by omega
      have hR0 : R = [] := List.length_eq_zero_iff.1 HRL.out
      have HE := Lib.hid (show allG bs = (L, 0) from by rw [HAR.out, hR0, allA_nil])
      go_wp2_with fail
      refine bodyPost_ret (v := .tuple #[vv, .int .i64 0]) (by simp [results, Try.results53, go_sem]) rfl ⟨_, by rw [HE.out]; rfl, by rw [HE.out]; exact HO.out, HB.out⟩
end Go.Proofs.Yteceinojmdgmeaa

