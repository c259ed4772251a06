/- EyU · EyV: joined by a program, for a claim has at most 60 files. -/
import Derived.Test.YtdkgckgpdogimaaGreatDoorC18
import Derived.Deep.AppendSrc
/- The machine's append and copy, in the program. -/
namespace Go.Proofs.YtdkgckgpdogimaaGreatDoor
open Go.RowKit
set_option linter.unusedVariables false
set_option linter.unusedSimpArgs false
set_option linter.unusedSectionVars false
variable [Sy] [Dc] [DcOK]

section
variable {P : Program} {w : World}
def SrcK (P : Program) (t : TypeId) : Prop := (∃ e', P.underlying t = some (.slice e')) ∨ P.underlying t = some .string
theorem app_fit {ty t t1 e : TypeId} {k : Nat} {x : Value} {n sLen cap : Nat} {vs : List Value} {a : Addr} {w' : World} (hu : P.underlying t = some (.slice e)) (hk1 : SrcK P t1)
    (hk : ∀ w, (sizeOf e).run P w = .ok k w) (hn : (Builtin.lenOf x).run P w = .ok n w) (hc : (Builtin.firstCells k n x).run P w = .ok vs.toArray w) (hfit : sLen + n ≤ cap) (hst : (storeCells (a.add (sLen * k)) vs).run P w = .ok () w') :
    (Builtin.append_ #[t, t1] ty #[.slice (some a) sLen cap, x]).run P w = .ok (.slice (some a) (sLen + n) cap) w' := by
  rcases hk1 with ⟨e', hu1⟩ | hu1 <;> simp [Builtin.append_, run_underlying hu, run_underlying hu1, hk, hn, hc, hfit, hst]
theorem app_none {ty t t1 e : TypeId} {k : Nat} {x : Value} {cap : Nat} (hu : P.underlying t = some (.slice e)) (hk1 : SrcK P t1)
    (hk : ∀ w, (sizeOf e).run P w = .ok k w) (hn : (Builtin.lenOf x).run P w = .ok 0 w) (hc : (Builtin.firstCells k 0 x).run P w = .ok #[] w) :
    (Builtin.append_ #[t, t1] ty #[.slice none 0 cap, x]).run P w = .ok (.slice none 0 cap) w := by
  rcases hk1 with ⟨e', hu1⟩ | hu1 <;> simp [Builtin.append_, run_underlying hu, run_underlying hu1, hk, hn, hc]
theorem growBy_le (m : Nat) : ∀ (r c : Nat), c ≤ m → 256 ≤ c → Builtin.growBy m r c ≤ 2 * m
  | 0, c, h, _ => by unfold Builtin.growBy; omega
  | r + 1, c, h, h2 => by
    unfold Builtin.growBy
    split
    · omega
    · by_cases h3 : c + (c + 768) / 4 ≤ m
      · exact growBy_le m r _ h3 (by omega)
      · cases r with
        | zero => unfold Builtin.growBy; omega
        | succ r => unfold Builtin.growBy; rw [if_pos (by omega)]; omega
theorem next_le {m c : Nat} (h : c < m) : Builtin.nextslicecap m c ≤ 2 * m := by
  unfold Builtin.nextslicecap
  split
  · omega
  · split
    · omega
    · exact growBy_le m 4 c (by omega) (by omega)
theorem app_grow {ty t t1 e : TypeId} {i : TypeInfo} {z x : Value} {n sLen cap : Nat} {olds vs : List Value} {a : Option Addr} (hu : P.underlying t = some (.slice e)) (hk1 : SrcK P t1)
    (hi : P.info? e = some i) (hz : i.zero = some z) (hn : (Builtin.lenOf x).run P w = .ok n w) (hc : (Builtin.firstCells i.size n x).run P w.drew = .ok vs.toArray w.drew)
    (ho : (Builtin.firstCells i.size sLen (.slice a sLen cap)).run P w.drew = .ok olds.toArray w.drew) (hg : cap < sLen + n) (hb : i.bytes ≤ 10000) (hneed : sLen + n ≤ 1000000) :
    (Builtin.append_ #[t, t1] ty #[.slice a sLen cap, x]).run P w = .ok (.slice (some ⟨w.heap.size, 0, none⟩) (sLen + n) (grownCap w (sLen + n) cap e))
      (w.drew.alloc (.cells ((olds ++ vs).toArray ++ Builtin.zeroCells z.cells (grownCap w (sLen + n) cap e - (sLen + n))) e)) := by
  have h48 : ¬ (281474976710656 < Builtin.nextslicecap (sLen + n) cap * i.bytes) := by
    have := Nat.mul_le_mul (next_le hg) hb
    omega
  have hn' : ¬ (sLen + n ≤ cap) := by omega
  have h63' : ¬ (9223372036854775807 < ((sLen : Int) + (n : Int))) := by omega
  rcases hk1 with ⟨e', hk⟩ | hk <;>
    (simp [Builtin.append_, run_underlying hu, run_underlying hk, sizeOf, typeInfo, zeroValue, hi, hz, hn, hn', h63', h48, Question.forced, hc, ho, newRow, grownCap]
     congr 2
     apply Array.ext'
     simp [List.append_assoc])
/-- 'append(s, make(..)...)': so many zero elements. -/
theorem appz_fit {ty t t1 e : TypeId} {kk : IntKind} {i : TypeInfo} {z : Value} {n sLen cap : Nat} {a : Addr} {w' : World} (hu : P.underlying t = some (.slice e)) (hu1 : P.underlying t1 = some (.int kk))
    (hi : P.info? e = some i) (hz : i.zero = some z) (hb : i.bytes ≤ 10000) (hn : n ≤ 10000) (hfit : sLen + n ≤ cap) (hst : (storeCells (a.add (sLen * i.size)) (if n * i.size = 0 then [] else (Builtin.zeroCells z.cells n).toList)).run P w = .ok () w') :
    (Builtin.append_ #[t, t1] ty #[.slice (some a) sLen cap, .int .i64 (n : Int)]).run P w = .ok (.slice (some a) (sLen + n) cap) w' := by
  have hw : IntKind.i64.wrap (n : Int) = (n : Int) := IntWalk.i64_in _ (by omega)
  have h0 : ¬ ((n : Int) < 0) := by omega
  have h48 : ¬ (281474976710656 < (n : Int) * (i.bytes : Int)) := by
    have : n * i.bytes ≤ 10000 * 10000 := Nat.mul_le_mul hn hb
    have h2 : ((n * i.bytes : Nat) : Int) ≤ ((10000 * 10000 : Nat) : Int) := by exact_mod_cast this
    rw [Int.natCast_mul] at h2
    omega
  by_cases hz0 : n * i.size = 0
  · rw [if_pos hz0] at hst
    simp [Builtin.append_, run_underlying hu, run_underlying hu1, sizeOf, typeInfo, zeroValue, hi, hz, asInt, asIntOf, hw, h0, h48, hfit, hz0, hst]
  · rw [if_neg hz0] at hst
    simp [Builtin.append_, run_underlying hu, run_underlying hu1, sizeOf, typeInfo, zeroValue, hi, hz, asInt, asIntOf, hw, h0, h48, hfit, hz0, hst]
end
end Go.Proofs.YtdkgckgpdogimaaGreatDoor


/- The machine's append and copy, in the program: the steps. -/
namespace Go.Proofs.YtdkgckgpdogimaaGreatDoor
open Go.RowKit
set_option linter.unusedVariables false
set_option linter.unusedSimpArgs false
set_option linter.unusedSectionVars false
variable [Sy] [Dc] [DcOK]

/-- Values, stored in a row, wherever there is room. -/
theorem store_many {P : Program} {b o : Nat} {el : TypeId} {fz : Nat × Nat} : ∀ (vs : List Value) (i : Nat) (w : World) (arr : Array Value), w.heap[b]? = some (.cells arr el fz) → okfz fz arr.size → o + i + vs.length ≤ arr.size → (∀ v ∈ vs, (∀ a, v ≠ .agg a) ∧ ∀ a, v ≠ .tuple a) →
    ∃ w' arr', (storeCells ⟨b, o, none⟩ vs i).run P w = .ok () w' ∧ w'.heap[b]? = some (.cells arr' el fz) ∧ arr'.size = arr.size ∧ (∀ j, arr'[j]? = if o + i ≤ j ∧ j < o + i + vs.length then vs[j - (o + i)]? else arr[j]?) ∧
      (∀ k, k ≠ b → w'.heap[k]? = w.heap[k]?) ∧ w'.heap.size = w.heap.size ∧ w'.os = w.os ∧ w'.tape = w.tape ∧ w'.output = w.output
  | [], i, w, arr, hb, hf, hl, h1 => ⟨w, arr, rfl, hb, rfl, fun j => by rw [if_neg (by simp only [List.length_nil]; omega)], fun _ _ => rfl, rfl, rfl, rfl, rfl⟩
  | v :: vs, i, w, arr, hb, hf, hl, h1 => by
    simp only [List.length_cons] at hl
    have hi : o + i < arr.size := by omega
    have hcell : w.cell? ⟨b, o + i, none⟩ = some arr[o + i] := by
      unfold World.cell?
      rw [hb]
      simp [hi]
    have hfr := okfz_frozen hb hf hi
    have hh := setCell_heap w b (o + i) v hb
    obtain ⟨q1, q2⟩ := h1 v (by simp)
    obtain ⟨w', arr', k1, k2, k3, k4, k5, k6, k7, k8, k9⟩ := store_many (P := P) (o := o) vs (i + 1) (w.setCell ⟨b, o + i, none⟩ v) (arr.setIfInBounds (o + i) v) (by rw [hh, if_pos rfl]) (by simpa using hf) (by simp; omega) (fun u hu => h1 u (by simp [hu]))
    refine ⟨w', arr', ?_, k2, by rw [k3]; simp, fun j => ?_, fun k hk => by rw [k5 k hk, hh, if_neg hk], by rw [k6]; simp [World.setCell], k7, k8, k9⟩
    · have hst : (store ((⟨b, o, none⟩ : Addr).add i) v).run P w = .ok () (w.setCell ⟨b, o + i, none⟩ v) := by
        rw [addr_add]
        unfold store
        cases v with
        | agg a => exact absurd rfl (q1 a)
        | tuple a => exact absurd rfl (q2 a)
        | _ => simp [Sem.run, hcell, hfr]
      show ((store ((⟨b, o, none⟩ : Addr).add i) v) >>= fun _ => storeCells ⟨b, o, none⟩ vs (i + 1)).run P w = _
      rw [Sem.run_bind, hst]
      exact k1
    · rw [k4 j, List.length_cons, Array.getElem?_setIfInBounds]
      by_cases hj : o + (i + 1) ≤ j ∧ j < o + (i + 1) + vs.length
      · rw [if_pos hj, if_pos (by omega), show j - (o + i) = (j - (o + (i + 1))) + 1 by omega, List.getElem?_cons_succ]
      · rw [if_neg hj]
        by_cases he : o + i = j
        · rw [if_pos he, if_pos hi, if_pos (by omega), show j - (o + i) = 0 by omega]; rfl
        · rw [if_neg he, if_neg (by omega)]
theorem lenOf_rp {P : Program} {ρ : Pm} {x : AV} {v : Value} {n : Nat} (e : lenV x = some n) (hx : x.rp ρ v) (hm : x ≠ .nilm) (w : World) : (Builtin.lenOf v).run P w = .ok n w := by
  cases x with
  | str l =>
    injection e with e
    simp only [AV.rp] at hx
    obtain ⟨_, rfl⟩ := hx
    rw [← e, lenL_eq, ← bytesOf_size]
    rfl
  | nils => injection e with e; subst e; simp only [AV.rp] at hx; subst hx; rfl
  | sl n o len cap => injection e with e; subst e; simp only [AV.rp] at hx; obtain ⟨_, _, _, _, rfl⟩ := hx; rfl
  | os n z f len => injection e with e; subst e; simp only [AV.rp] at hx; obtain ⟨_, _, _, _, _, rfl⟩ := hx; rfl
  | emp => injection e with e; subst e; simp only [AV.rp] at hx; obtain ⟨_, _, rfl⟩ := hx; rfl
  | oe n9 z9 f9 => injection e with e; subst e; obtain ⟨_, _, rfl⟩ := oe_emp hx; rfl
  | nilm => exact absurd rfl hm
  | _ => cases e
section
variable {P : Program} {B : Nat} {lo : Nat} {h : Heap} {c : Nat} {lg : List Ev} {h' : Heap} {c' : Nat} {lg' : List Ev} {ρ : Pm} {w : World}
/-- The cells of q elements, in any world that the state tells of. -/
theorem src_snd {k : Nat} {x : AV} {q n : Nat} {l : List AV} {v : Value} (e : srcM k x q lo h c lg = .ok l h' c' lg') (hq : q ≤ n) (hn : lenV x = some n) (hx : x.rp ρ v) :
    h' = h ∧ ∀ w : World, Rep B ρ h w → ∃ vs : List Value, (Builtin.firstCells k q v).run P w = .ok vs.toArray w ∧ AV.rps ρ l vs := by
  cases x with
  | str s =>
    obtain ⟨_, e⟩ := want_ok (show want (Nat.beq k 1) 60 (ret ((takeL q s).map fun b => AV.int .u8 (.ofNat b))) lo h c lg = .ok l h' c' lg' from e)
    obtain ⟨rfl, rfl, _, _⟩ := ret_ok e
    simp only [AV.rp] at hx
    obtain ⟨hb, rfl⟩ := hx
    refine ⟨rfl, fun w hr => ⟨(s.take q).map fun (b : Nat) => Value.int .u8 (b : Int), ?_, ?_⟩⟩
    · have : (((bytesOf s).extract 0 q).data.map fun b => Value.int .u8 (b.toNat : Int)) = ((s.take q).map fun (b : Nat) => Value.int .u8 (b : Int)).toArray := by
        apply Array.ext'
        rw [Array.toList_map, ByteArray.data_extract, Array.toList_extract, bytesOf_toList, List.extract_eq_take_drop]
        simp only [List.drop_zero, Nat.sub_zero, ← List.map_take, List.map_map]
        apply List.map_congr_left
        intro b hb2
        have := hb b (List.mem_of_mem_take hb2)
        simp
        omega
      show (Sem.pure _ : Sem (Array Value)).run P w = _
      rw [this]
      rfl
    · rw [takeL_eq]
      refine rps_at.2 ⟨by simp, fun i y hy => ?_⟩
      rw [List.getElem?_map] at hy ⊢
      cases hs : (s.take q)[i]? with
      | none => rw [hs] at hy; cases hy
      | some b =>
        rw [hs] at hy
        injection hy with hy
        subst hy
        exact ⟨_, rfl, by simp only [AV.rp]; rfl⟩
  | nils =>
    obtain ⟨rfl, rfl, _, _⟩ := ret_ok (show ret [] lo h c lg = .ok l h' c' lg' from e)
    simp only [AV.rp] at hx
    subst hx
    exact ⟨rfl, fun w hr => ⟨[], rfl, rps_nil.2 rfl⟩⟩
  | emp =>
    obtain ⟨rfl, rfl, _, _⟩ := ret_ok (show ret [] lo h c lg = .ok l h' c' lg' from e)
    simp only [AV.rp] at hx
    obtain ⟨a, cc, rfl⟩ := hx
    injection hn with hn
    obtain rfl : q = 0 := by omega
    refine ⟨rfl, fun w hr => ⟨[], ?_, rps_nil.2 rfl⟩⟩
    show (loadCells a (0 * k)).run P w = _
    rw [Nat.zero_mul]
    rfl
  | oe n9 z9 f9 =>
    obtain ⟨rfl, rfl, _, _⟩ := ret_ok (show ret [] lo h c lg = .ok l h' c' lg' from e)
    obtain ⟨a, cc, rfl⟩ := oe_emp hx
    injection hn with hn
    obtain rfl : q = 0 := by omega
    refine ⟨rfl, fun w hr => ⟨[], ?_, rps_nil.2 rfl⟩⟩
    show (loadCells a (0 * k)).run P w = _
    rw [Nat.zero_mul]
    rfl
  | sl m o len cap =>
    simp only [AV.rp] at hx
    obtain ⟨b, f, cc, hm, rfl⟩ := hx
    obtain ⟨rfl, _, g3, g4⟩ := rdCs_ok (show rdCs m (Nat.mul q k) o lo h c lg = .ok l h' c' lg' from e)
    refine ⟨rfl, fun w hr => ?_⟩
    obtain ⟨vs, k1, k2, _, _⟩ := hr.cells (P := P) g3 g4 hm
    exact ⟨vs, k1, k2⟩
  | os m z f len =>
    simp only [AV.rp] at hx
    obtain ⟨b, g, cc, hm, hlc, rfl⟩ := hx
    have e : (bif Nat.beq z k then rdCs m (Nat.mul q k) (Nat.mul f z) else fail [60]) lo h c lg = .ok l h' c' lg' := e
    cases hz : Nat.beq z k with
    | false => rw [hz] at e; cases e
    | true =>
      rw [hz] at e
      obtain ⟨rfl, _, g3, g4⟩ := rdCs_ok (show rdCs m (Nat.mul q k) (Nat.mul f z) lo h c lg = .ok l h' c' lg' from e)
      refine ⟨rfl, fun w hr => ?_⟩
      obtain ⟨vs, k1, k2, _, _⟩ := hr.cells (P := P) g3 g4 hm
      exact ⟨vs, k1, k2⟩
  | _ => cases e
theorem src_len {k : Nat} {x : AV} {n : Nat} {l : List AV} (e : srcM k x n lo h c lg = .ok l h' c' lg') (hn : lenV x = some n) : l.length = n * k := by
  cases x with
  | str s =>
    obtain ⟨hk, e⟩ := want_ok (show want (Nat.beq k 1) 60 (ret ((takeL n s).map fun b => AV.int .u8 (.ofNat b))) lo h c lg = .ok l h' c' lg' from e)
    obtain ⟨rfl, rfl, _, _⟩ := ret_ok e
    have hk := Nat.eq_of_beq_eq_true hk
    injection hn with hn
    rw [lenL_eq] at hn
    rw [List.length_map, takeL_eq, List.length_take, hk, hn]
    omega
  | nils =>
    obtain ⟨rfl, rfl, _, _⟩ := ret_ok (show ret [] lo h c lg = .ok l h' c' lg' from e)
    injection hn with hn
    rw [← hn, Nat.zero_mul]; rfl
  | emp =>
    obtain ⟨rfl, rfl, _, _⟩ := ret_ok (show ret [] lo h c lg = .ok l h' c' lg' from e)
    injection hn with hn
    rw [← hn, Nat.zero_mul]; rfl
  | oe n9 z9 f9 =>
    obtain ⟨rfl, rfl, _, _⟩ := ret_ok (show ret [] lo h c lg = .ok l h' c' lg' from e)
    injection hn with hn
    rw [← hn, Nat.zero_mul]; rfl
  | sl m o len cap => exact (rdCs_ok (show rdCs m (Nat.mul n k) o lo h c lg = .ok l h' c' lg' from e)).2.2.1
  | os m z f len =>
    have e : (bif Nat.beq z k then rdCs m (Nat.mul n k) (Nat.mul f z) else fail [60]) lo h c lg = .ok l h' c' lg' := e
    cases hz : Nat.beq z k with
    | false => rw [hz] at e; cases e
    | true => rw [hz] at e; exact (rdCs_ok (show rdCs m (Nat.mul n k) (Nat.mul f z) lo h c lg = .ok l h' c' lg' from e)).2.2.1
  | _ => cases e
theorem lenV_ne {x : AV} {n : Nat} (e : lenV x = some n) (h0 : n ≠ 0) : x ≠ .nilm := fun hx => by
  subst hx
  injection e with e
  exact h0 e.symm
theorem size2 {ts : Array TypeId} {t0 t1 : TypeId} (h0 : ts[0]? = some t0) (h1 : ts[1]? = some t1) (h2 : ts.size = 2) : ts = #[t0, t1] := by
  apply Array.ext_getElem?
  intro i
  match i with
  | 0 => simpa using h0
  | 1 => simpa using h1
  | i + 2 => rw [Array.getElem?_eq_none (by omega), Array.getElem?_eq_none (by simp)]
/-- Values, written to cells that are told. -/
theorem put_snd {n b f cc o : Nat} (hn : ρ n = some (b, f, cc)) {l : List AV} {vs : List Value} {u : Unit} (e : wrCs n l o lo h c lg = .ok u h' c' lg') (hv : AV.rps ρ l vs) (hr : Rep B ρ h w) : ∃ w', (storeCells ⟨b, f + o, none⟩ vs).run P w = .ok () w' ∧ Rep B ρ h' w' ∧ Below B w w' := by
  obtain ⟨w', k1, k2, k3, _⟩ := stores_snd (P := P) hn (o := o) (i := 0) e hv hr
  exact ⟨w', k1, k2, k3⟩
theorem copy_snd {ts : Array TypeId} {ty : TypeId} {d x y : AV} {vd vx : Value} (e : copyM P ts d x lo h c lg = .ok y h' c' lg') (hr : Rep B ρ h w) (hd : d.rp ρ vd) (hx : x.rp ρ vx) : VRun P B (Builtin.copy_ ts ty #[vd, vx]) ρ w y h' := by
  obtain ⟨el, h1, e⟩ := need_ok (show need ((ts[0]?).bind (elS P)) 72 _ lo h c lg = .ok y h' c' lg' from e)
  obtain ⟨t0, h0, h1⟩ := bind_some' h1
  obtain ⟨k, h2, e⟩ := need_ok e
  obtain ⟨n, h3, e⟩ := need_ok e
  obtain ⟨hnm0, e⟩ := want_ok e
  have hnm : x ≠ .nilm := fun hh => by subst hh; cases hnm0
  have hu := elS_some h1
  have hlen := lenOf_rp (P := P) h3 hx hnm w
  have hk : ∀ w, (sizeOf el).run P w = .ok k w := fun w => run_szO h2 w
  cases d with
  | sl m o len cap =>
    simp only [AV.rp] at hd
    obtain ⟨b, f, cc, hn, rfl⟩ := hd
    have e : fNat (Nat.min n len) (fun q => bnd (srcM k x q) fun l => bnd (wrCs m l o) fun _ => ret (.int .i64 (.ofNat q))) lo h c lg = .ok y h' c' lg' := e
    rw [fNat_eq] at e
    obtain ⟨l, ha, ca, lga, e1, e2⟩ := bnd_ok e
    obtain ⟨u, hb, cb, lgb, e3, e4⟩ := bnd_ok e2
    obtain ⟨rfl, rfl, _, _⟩ := ret_ok e4
    obtain ⟨rfl, hs⟩ := src_snd (P := P) (B := B) e1 (Nat.min_le_left n len) h3 hx
    obtain ⟨vs, k1, k2⟩ := hs w hr
    obtain ⟨w', m1, m2, m3⟩ := put_snd (P := P) hn e3 k2 hr
    refine ⟨ρ, .int .i64 ((Nat.min n len : Nat) : Int), w', ?_, Pm.le.refl ρ, by simp only [AV.rp]; rfl, m2, m3⟩
    simp [Builtin.copy_, h0, run_underlying hu, hlen, hk, k1, m1, goInt]
  | os m z g len =>
    simp only [AV.rp] at hd
    obtain ⟨b, f, cc, hn, hlc, rfl⟩ := hd
    obtain ⟨hz, e⟩ := want_ok (show want (Nat.beq z k) 75 (fNat (Nat.min n len) fun q => bnd (srcM k x q) fun l => bnd (wrCs m l (Nat.mul g k)) fun _ => ret (.int .i64 (.ofNat q))) lo h c lg = .ok y h' c' lg' from e)
    have hz := Nat.eq_of_beq_eq_true hz
    rw [fNat_eq] at e
    obtain ⟨l, ha, ca, lga, e1, e2⟩ := bnd_ok e
    obtain ⟨u, hb, cb, lgb, e3, e4⟩ := bnd_ok e2
    obtain ⟨rfl, rfl, _, _⟩ := ret_ok e4
    obtain ⟨rfl, hs⟩ := src_snd (P := P) (B := B) e1 (Nat.min_le_left n len) h3 hx
    obtain ⟨vs, k1, k2⟩ := hs w hr
    obtain ⟨w', m1, m2, m3⟩ := put_snd (P := P) hn e3 k2 hr
    refine ⟨ρ, .int .i64 ((Nat.min n len : Nat) : Int), w', ?_, Pm.le.refl ρ, by simp only [AV.rp]; rfl, m2, m3⟩
    rw [hz]
    have m1 : (storeCells ⟨b, f + g * k, none⟩ vs).run P w = .ok () w' := m1
    simp [Builtin.copy_, h0, run_underlying hu, hlen, hk, k1, m1, goInt]
  | _ => cases e
end
end Go.Proofs.YtdkgckgpdogimaaGreatDoor

