/- FrmL · FrmT: joined by a program, for a claim has at most 60 files. -/
import Derived.Test.YteceinojmdgmeaaF03
import Derived.Test.YteceinojmdgmeaaC13
import Derived.Test.YteceinojmdgmeaaC19
import Derived.Test.YteceinojmdgmeaaC33
import Derived.Test.YteceinojmdgmeaaC23
import Derived.Lib.AppendStr
/- HdecForms, plain: items whose texts come plainly, and items whose names are told by their places, are the same fields. -/
namespace Go.Proofs.Yteceinojmdgmeaa
open Go.RowKit
set_option linter.unusedVariables false
set_option linter.unusedSimpArgs false

/-- A text's bytes without a code. -/
def plainN (s : ByteArray) : List Nat := putN 0 7 s.size ++ bytesU s
theorem plain_len (s : ByteArray) (h : s.size ≤ 100) : (plainN s).length = 1 + s.size := by
  unfold plainN
  rw [put0_100 s.size h, List.length_append, bytesU_len]
  rfl
theorem plainG (s : ByteArray) (h : s.size ≤ 100) (r : List Nat) : textG (plainN s ++ r) = (s, (plainN s).length, 0) := by
  have e : plainN s = putN 0 7 s.size ++ bytesU s := rfl
  have hp := put0_100 s.size h
  have hg := getN_put 0 7 s.size (by unfold K4; decide) (by omega) (bytesU s ++ r)
  rw [← List.append_assoc] at hg
  have hd := drop_take_mid (putN 0 7 s.size) (bytesU s) r
  rw [bytesU_len] at hd
  unfold textG
  rw [e, hg]
  simp only
  rw [if_neg (by simp), if_neg (by omega), if_neg (by simp only [List.length_append, bytesU_len]; omega), if_pos (by rw [hp]; simp; omega), hd, bsB_bytes]
  simp only [List.length_append, bytesU_len]
/-- An item that adds, plainly. -/
def itemP (n v : ByteArray) : List Nat := 64 :: (plainN n ++ plainN v)
theorem itemP_got (n v : ByteArray) (hn : n.size ≤ 100) (hv : v.size ≤ 100) (r : List Nat) : itemG (itemP n v ++ r) = (⟨1, 0, n, v⟩, (itemP n v).length, 0) := by
  have hg := getN_put 64 6 0 (by unfold K4; decide) (by omega) (plainN n ++ (plainN v ++ r))
  have hp : putN 64 6 0 = [64] := by unfold putN; rw [if_pos (by decide)]; decide
  rw [hp] at hg
  have e : itemP n v ++ r = 64 :: (plainN n ++ (plainN v ++ r)) := by simp [itemP]
  have hk : kindN 64 = 1 := by decide
  have hb : formB 1 = 6 := by decide
  have hl : partsOf 1 0 = [false, true] := by decide
  have h1 := plainG n hn (plainN v ++ r)
  have h2 := plainG v hv r
  rw [e]
  have d1 : (64 :: (plainN n ++ (plainN v ++ r))).drop 1 = plainN n ++ (plainN v ++ r) := rfl
  have d2 : (64 :: (plainN n ++ (plainN v ++ r))).drop (1 + (plainN n).length) = plainN v ++ r := by
    rw [← List.drop_drop, d1, List.drop_left]
  unfold itemG
  simp only [hk, hb]
  rw [show (64 :: (plainN n ++ (plainN v ++ r))) = [64] ++ (plainN n ++ (plainN v ++ r)) from rfl, hg]
  simp only [List.length_cons, List.length_nil]
  rw [if_neg (by simp), if_neg (by simp), hl]
  rw [show [64] ++ (plainN n ++ (plainN v ++ r)) = 64 :: (plainN n ++ (plainN v ++ r)) from rfl]
  unfold goParts
  rw [show (0 + 1) = 1 from rfl, d1, h1]
  simp only
  rw [if_neg (by simp)]
  unfold goParts
  rw [d2, h2]
  simp only
  rw [if_neg (by simp)]
  unfold goParts
  simp only [Itm.put, itemP, List.length_cons, List.length_append]
  simp
  omega
theorem allA_of : ∀ (l : List (Itm × List Nat)) (f : Nat) (L : List Itm) (r : List Nat), (∀ p ∈ l, p.2 ≠ [] ∧ ∀ r, itemG (p.2 ++ r) = (p.1, p.2.length, 0)) → allA (f + l.length) L (l.flatMap (·.2) ++ r) = allA f (L ++ l.map (·.1)) r
  | [], f, L, r, _ => by simp
  | p :: l, f, L, r, h => by
    obtain ⟨hp, hg⟩ := h p (by simp)
    rw [List.flatMap_cons, List.append_assoc, List.length_cons, ← Nat.add_assoc, allA_step _ _ _ (by simp [hp]), hg]
    simp only
    rw [if_neg (by simp), List.drop_left, allA_of l f (L ++ [p.1]) r (fun y hy => h y (by simp [hy]))]
    simp
theorem flat_len (l : List (Itm × List Nat)) (h : ∀ p ∈ l, p.2 ≠ []) : l.length ≤ (l.flatMap (·.2)).length := by
  induction l with
  | nil => simp
  | cons x l ih =>
    have : 0 < x.2.length := List.length_pos_iff.2 (h x (by simp))
    have := ih (fun y hy => h y (by simp [hy]))
    rw [List.flatMap_cons, List.length_append, List.length_cons]
    omega
theorem allG_of (l : List (Itm × List Nat)) (h : ∀ p ∈ l, p.2 ≠ [] ∧ ∀ r, itemG (p.2 ++ r) = (p.1, p.2.length, 0)) : allG (l.flatMap (·.2)) = (l.map (·.1), 0) := by
  have hl := flat_len l (fun p hp => (h p hp).1)
  unfold allG
  obtain ⟨f, hf⟩ : ∃ f, (l.flatMap (·.2)).length = f + l.length := ⟨(l.flatMap (·.2)).length - l.length, by omega⟩
  have := allA_of l f [] [] h
  rw [List.append_nil] at this
  rw [hf, this, allA_nil]
  simp
/-- A field that is not marked. -/
def clr (f : Fld) : Fld := ⟨f.name, f.value, false⟩
/-- All fields' plain bytes. -/
def catP (l : List Fld) : List Nat := l.flatMap fun f => itemP f.name f.value
def Sm60 (l : List Fld) : Prop := ∀ f ∈ l, f.name.size ≤ 60 ∧ f.value.size ≤ 60
theorem allG_catP (l : List Fld) (h : Sm60 l) : allG (catP l) = (l.map (fun f => ⟨1, 0, f.name, f.value⟩), 0) := by
  have := allG_of (l.map fun f => ((⟨1, 0, f.name, f.value⟩ : Itm), itemP f.name f.value)) (by
    intro p hp
    obtain ⟨f, hf, rfl⟩ := List.mem_map.1 hp
    have hs := h f hf
    exact ⟨by simp [itemP], fun r => itemP_got f.name f.value (by omega) (by omega) r⟩)
  rw [List.flatMap_map, List.map_map] at this
  exact this
theorem catP_len (l : List Fld) (h : Sm60 l) : (catP l).length ≤ 123 * l.length := by
  induction l with
  | nil => simp [catP]
  | cons f l ih =>
    have hs := h f (by simp)
    have := ih (fun y hy => h y (by simp [hy]))
    have e : catP (f :: l) = itemP f.name f.value ++ catP l := by simp [catP]
    rw [e, List.length_append, List.length_cons, itemP, List.length_cons, List.length_append, plain_len _ (by omega), plain_len _ (by omega)]
    omega
theorem catP_app (a b : List Fld) : catP (a ++ b) = catP a ++ catP b := by simp [catP]
theorem plain_bytes (s : ByteArray) : ∀ x ∈ plainN s, x < 256 := by
  intro x hx
  unfold plainN at hx
  rcases List.mem_append.1 hx with h | h
  · exact putN_bytes 0 7 _ (by omega) (by unfold K4; decide) x h
  · unfold bytesU at h
    obtain ⟨u, _, rfl⟩ := List.mem_map.1 h
    exact u.toNat_lt
theorem catP_bytes (l : List Fld) : ∀ x ∈ catP l, x < 256 := by
  intro x hx
  obtain ⟨f, _, hx⟩ := List.mem_flatMap.1 hx
  unfold itemP at hx
  rcases List.mem_cons.1 hx with rfl | hx
  · decide
  · rcases List.mem_append.1 hx with h | h
    · exact plain_bytes _ x h
    · exact plain_bytes _ x h
/-- The table behind fields that were added. -/
def tabF (l : List Fld) : List Fld := l.foldl (fun T f => addL 4096 T f) []
theorem tabF_snoc (l : List Fld) (f : Fld) : tabF (l ++ [f]) = addL 4096 (tabF l) f := by simp [tabF]
theorem addL_clr (mx : Int) (T : List Fld) (f : Fld) : addL mx T (clr f) = addL mx T f := rfl
theorem tabF_chk : ∀ l : List Fld, chkN 4096 (tabF l) = 0 := by
  intro l
  have h : ∀ (l T : List Fld), chkN 4096 T = 0 → chkN 4096 (l.foldl (fun T f => addL 4096 T f) T) = 0 := by
    intro l
    induction l with
    | nil => intro T h; exact h
    | cons f l ih => intro T h; exact ih _ (addL_chk f h)
  exact h l [] (by decide)
/-- An item that adds a field: its name by itself, or by a place that has it. -/
structure Adds (T : List Fld) (f : Fld) (x : Itm) : Prop where
  kind : x.kind = 1
  value : x.value = f.value
  named : (hNamed T x).2 = true ∧ (hNamed T x).1.name = f.name
theorem Adds.st {T : List Fld} {f : Fld} {x : Itm} (h : Adds T f x) (mx cp : Int) : hSt mx cp T x = (mx, addL mx T f, clr f, true, 0) := by
  unfold hSt
  rw [if_neg (by rw [h.kind]; decide), if_neg (by rw [h.named.1]; simp), if_neg (by rw [h.kind]; decide), if_pos h.kind, h.named.2, h.value]
  rfl
theorem Adds.run {T : List Fld} {f : Fld} {x : Itm} (h : Adds T f x) {cp : Int} {its : List Itm} {O : List Fld} (hn : noR its) (hr : hRun cp its 4096 [] false [] = (4096, T, O, 0)) : hRun cp (its ++ [x]) 4096 [] false [] = (4096, addL 4096 T f, O ++ [clr f], 0) := by
  have hx : x.kind ≠ 4 := by rw [h.kind]; decide
  rw [hRun_app cp its [x] 4096 [] false [] hn (fun y hy => by obtain rfl := List.mem_singleton.1 hy; exact hx), hr]
  simp only [ne_eq, not_true_eq_false, ↓reduceIte]
  rw [hRun_cons cp x [] 4096 T false O hx, h.st]
  simp [hRun]
theorem adds_plain (T : List Fld) (f : Fld) : Adds T f ⟨1, 0, f.name, f.value⟩ := ⟨rfl, rfl, by simp [hNamed]⟩
theorem at_gOf {T : List Fld} {q : Nat} (h : q < 61 + T.length) : atF T ((q + 1 : Nat) : Int) = (gOf T q, true) := by
  unfold atF gOf
  by_cases h1 : q < 61
  · rw [if_neg (by omega), if_pos (by omega), if_pos h1, show (((q + 1 : Nat) : Int) - 1).toNat = q from by omega]
  · rw [if_neg (by omega), if_neg (by omega), if_neg h1, show (((q + 1 : Nat) : Int) - 62).toNat = q - 61 from by omega, List.getElem?_eq_getElem (by omega), List.getD_eq_getElem?_getD, List.getElem?_eq_getElem (by omega)]
    rfl
/-- A place that Find tells has the name. -/
theorem adds_place {T : List Fld} {f : Fld} {p : Nat} {x : Bool} (h : DFound T f.name f.value p x) (hp : 0 < p) : Adds T f ⟨1, (p : Int), ⟨#[]⟩, f.value⟩ ∧ p ≤ 61 + T.length := by
  have key : ∃ q, q < 61 + T.length ∧ p = q + 1 ∧ (gOf T q).name = f.name := by
    rcases h with ⟨_, k, h1, h2, h3, _⟩ | ⟨_, _, h⟩
    · exact ⟨k, h1, h2, h3⟩
    · rcases h with ⟨h, _⟩ | ⟨q, h1, h2, h3, _⟩
      · omega
      · exact ⟨q, h1, h2, h3⟩
  obtain ⟨q, h1, rfl, h3⟩ := key
  refine ⟨⟨rfl, rfl, ?_⟩, by omega⟩
  unfold hNamed
  rw [if_neg (by show ((q + 1 : Nat) : Int) ≠ 0; omega), at_gOf h1]
  exact ⟨rfl, h3⟩
/-- What a block of them does. -/
def frmR (l : List Fld) : Int × List Fld × List Fld × Bool × Int := if 1024 < sumF l then (4096, tabF l, [], false, 0) else (4096, tabF l, l.map clr, true, 0)
theorem sumF_clr (l : List Fld) : sumF (l.map clr) = sumF l := by
  induction l with
  | nil => rfl
  | cons f l ih => simp only [List.map_cons, sumF, ih]; rfl
theorem run_plain (cp : Int) (l : List Fld) : hRun cp (l.map (fun f => ⟨1, 0, f.name, f.value⟩)) 4096 [] false [] = (4096, tabF l, l.map clr, 0) := by
  have h : ∀ r : List Fld, hRun cp (r.reverse.map (fun f => ⟨1, 0, f.name, f.value⟩)) 4096 [] false [] = (4096, tabF r.reverse, r.reverse.map clr, 0) := by
    intro r
    induction r with
    | nil => rfl
    | cons f r ih =>
      rw [List.reverse_cons, List.map_append, List.map_append, tabF_snoc]
      exact (adds_plain _ f).run (fun x hx => by obtain ⟨g, _, rfl⟩ := List.mem_map.1 hx; show (1 : Nat) ≠ 4; decide) ih
  have := h l.reverse
  rw [List.reverse_reverse] at this
  exact this
theorem blk_plain (l : List Fld) (h : Sm60 l) : hBlk 4096 4096 [] (catP l) = frmR l := by
  unfold hBlk frmR
  rw [allG_catP l h, if_neg (by decide), if_neg (by simp), run_plain]
  simp only [ne_eq, not_true_eq_false, ↓reduceIte, sumF_clr]
theorem blk_places (l : List Fld) (its : List Itm) (hi : ∀ x ∈ its, OkI x) (hr : hRun 4096 its 4096 [] false [] = (4096, tabF l, l.map clr, 0)) : hBlk 4096 4096 [] (catI its) = frmR l := by
  rw [hBlk_cat 4096 4096 [] its (by decide) hi, hr]
  unfold frmR
  simp only [ne_eq, not_true_eq_false, ↓reduceIte, sumF_clr]
theorem frmR_form (l : List Fld) : ∃ is F, frmR l = (4096, tabF l, F, is, 0) ∧ is = decide (sumF l ≤ 1024) ∧ F.length ≤ l.length ∧ ∀ (j : Nat) (f : Fld), F[j]? = some f → ∃ g, l[j]? = some g ∧ f = clr g := by
  unfold frmR
  by_cases h : 1024 < sumF l
  · rw [if_pos h]
    exact ⟨false, [], rfl, (decide_eq_false (by omega)).symm, by simp, fun j f hf => by simp at hf⟩
  · rw [if_neg h]
    refine ⟨true, l.map clr, rfl, (decide_eq_true (by omega)).symm, by simp, fun j f hf => ?_⟩
    rw [List.getElem?_map] at hf
    cases hg : l[j]? with
    | none => rw [hg] at hf; cases hf
    | some g => rw [hg] at hf; exact ⟨g, rfl, (Option.some.inj hf).symm⟩
theorem sm_light {l : List Fld} (h : Sm60 l) : ∀ f ∈ l, lightF f = true := fun f hf => by
  have := h f hf
  simp only [lightF, Bool.and_eq_true, decide_eq_true_eq]
  omega
end Go.Proofs.Yteceinojmdgmeaa


/- footmanlaw06.text: the walk: a text's bytes without a code. -/
namespace Go.Proofs.Yteceinojmdgmeaa
open Go.RowKit
set_option linter.unusedVariables false
set_option linter.unusedSimpArgs false

set_option maxRecDepth 100000 in
set_option maxHeartbeats 2000000 in
theorem plain_any (s : ByteArray) (hs : s.size ≤ 100) (w : World) : Calls Try.prog 28 #[.string s] w fun e w' => ∃ v, e = .returned v ∧ OwnB w' w.heap.size v (plainN s) ∧ Below w.heap.size w w' := by
  obtain ⟨i0, hi0, hz0, hz1, hz2⟩ := info_parts u8_info
  have HI := Lib.hid hi0
  have HZ0 := Lib.hid hz0
  have HZ1 := Lib.hid hz1
  have HZ2 := Lib.hid hz2
  have HPB := Lib.hid (show ∀ W, Calls Try.prog 50 #[.int .u8 0, .int .i64 7, .int .i64 (s.size : Int)] W (PutPost 0 7 s.size W) from fun W => put_any 0 7 _ (by omega) (by unfold K4; decide) (by omega) W)
  unfold PutPost at HPB
  have hlen : (putN 0 7 s.size).length ≤ 3000000 := (putN_len 0 7 s.size (by omega)).2
  have HC2 := Lib.hid (show (putN 0 7 s.size).length + s.size ≤ maxLen from by unfold maxLen; omega)
  have HC3 := Lib.hid (show (putN 0 7 s.size).length + s.size ≤ 140737488355328 from by omega)
  clear hi0 hz0 hz1 hz2 hlen
  go_enter Try.func28, Try.ntmps28
  go_wp2_with fail
  refine (HPB.out _).mono ?_
  rintro e w4 ⟨v4, rfl, ho, hb⟩
  have HO4 := Lib.hid ho
  have HB4 := Lib.hid hb
  clear hb ho
  go_wp2_with (at_builtin; refine Lib.wpList_append_own_string _ rfl _ _ 23 9 rfl w.heap.size 5 i0 Try.underlying23 Try.underlying9 HI.out HZ0.out HZ1.out HZ2.out v4 _ _ rfl HO4.out s rfl HC2.out HC3.out HB4.out.size ?_; intro v6 w6 hown6 hg6 _)
  have B6 := Lib.hid (HB4.out.grown hg6 HB4.out.size (fun q hq => (World.ownsRow.lt HO4.out q hq).1))
  have HO6 := Lib.hid (show OwnB w6 w.heap.size v6 (plainN s) from by
    unfold plainN OwnB
    rw [List.length_append, List.map_append, bytesU_len, ← strCells_eq]
    exact hown6)
  clear hg6 hown6
  go_wp2_with fail
  go_ret
  exact ⟨_, rfl, HO6.out, B6.out⟩
end Go.Proofs.Yteceinojmdgmeaa

