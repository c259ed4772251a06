/- The machine's conversions, in the program. -/
import Derived.Test.YtdkgckgpdogimaaGreatDoorC17
namespace Go.Proofs.YtdkgckgpdogimaaGreatDoor
open Go.RowKit
set_option linter.unusedVariables false
set_option linter.unusedSimpArgs false
set_option linter.unusedSectionVars false
variable [Sy] [Dc] [DcOK]

theorem Rep.heap {B : Nat} {ρ : Pm} {h : Heap} {w w' : World} (hr : Rep B ρ h w) (e : w'.heap = w.heap) (h1 : w'.os = w.os) (h2 : w'.tape = w.tape) (h3 : w'.output = w.output) : Rep B ρ h w' :=
  ⟨by rw [e]; exact hr.size, fun n hl => by rw [e]; exact hr.live n hl, hr.free, hr.apart, Sy.keep hr.inv ⟨h1, h2, h3, by rw [e]; exact Nat.le_refl _, fun k _ => by rw [e]⟩, fun b i v hv => (cell_congr (by rw [e]) _ _).trans (hr.frz b i v hv), hr.sep, fun n el sh x hx => (hr.tok n el sh x hx).of rfl (fun _ _ _ _ _ => rfl) fun _ _ _ _ => by rw [e], hr.low⟩
/-- A new block, whatever else was drawn. -/
theorem Rep.newW {B : Nat} {ρ : Pm} {h : Heap} {w : World} (hr : Rep B ρ h w) {n : Nat} (hn : h.get n = none) {b : Blk} (hb : b.mta.live = true) {c : Nat} {o : Obj}
    (ho : ∀ ρ', ρ.le ρ' → repB ρ' 0 c b.mta (cellOf (some b)) o) {w' : World} (hh : w'.heap = w.heap.push o) (h1 : w'.os = w.os) (h2 : w'.tape = w.tape) (h3 : w'.output = w.output) :
    ∃ ρ', ρ.le ρ' ∧ ρ' n = some (w.heap.size, 0, c) ∧ Rep B ρ' (h.set n b) w' ∧ Below B w w' := by
  obtain ⟨ρ', k1, k2, k3, k4⟩ := hr.new hn hb ho
  have e : w'.heap = (w.alloc o).heap := hh
  exact ⟨ρ', k1, k2, k3.heap e h1 h2 h3, h1, h2, h3, by rw [e]; exact k4.size, fun k hk => by rw [e]; exact k4.block k hk⟩
theorem push_of {w w' : World} {o : Obj} (h1 : ∀ j, j < w.heap.size → w'.heap[j]? = w.heap[j]?) (h2 : w'.heap[w.heap.size]? = some o) (h3 : w'.heap.size = w.heap.size + 1) : w'.heap = w.heap.push o := by
  apply Array.ext_getElem?
  intro i
  rw [Array.getElem?_push]
  by_cases hi : i = w.heap.size
  · rw [if_pos hi, hi, h2]
  · rw [if_neg hi]
    by_cases hl : i < w.heap.size
    · exact h1 i hl
    · rw [Array.getElem?_eq_none (by omega), Array.getElem?_eq_none (by omega)]
theorem isU8_some {P : Program} {e : TypeId} (h : isU8 P e = true) : P.underlying e = some (.int .u8) := by
  unfold isU8 at h
  split at h
  · assumption
  · cases h
theorem slU8_some {P : Program} {d : TypeDesc} (h : slU8 P d = true) : ∃ e, d = .slice e ∧ P.underlying e = some (.int .u8) := by
  unfold slU8 at h
  split at h
  · exact ⟨_, rfl, isU8_some h⟩
  · cases h
theorem bytL_some {ρ : Pm} : ∀ {l : List AV} {m : List Nat} {vs : List Value}, bytL l = some m → AV.rps ρ l vs → (∀ b ∈ m, b < 256) ∧ ∃ ns : List Int, vs = ns.map (Value.int .u8) ∧ ∀ s : ByteArray, ns.foldl (fun r n => r.push (UInt8.ofNat n.toNat)) s = ⟨s.data ++ (m.map UInt8.ofNat).toArray⟩
  | [], m, vs, e, hv => by
    have e : some [] = some m := e
    injection e with e
    subst e
    rw [rps_nil] at hv
    subst hv
    exact ⟨by simp, [], rfl, fun s => by simp⟩
  | x :: l, m, vs, e, hv => by
    rw [rps_cons] at hv
    obtain ⟨y, m', rfl, hx, hl⟩ := hv
    have e : bytS x (bytL l) = some m := e
    have hb : ∃ b : Nat, x = .int .u8 (.ofNat b) := by
      unfold bytS at e
      split at e
      · exact ⟨_, rfl⟩
      · cases e
    obtain ⟨b, rfl⟩ := hb
    obtain ⟨m2, he, e⟩ := bind_some' (show (bytL l).bind (fun m => some ((b % 256) :: m)) = some m from e)
    injection e with e
    subst e
    · obtain ⟨h1, ns, rfl, h3⟩ := bytL_some he hl
      simp only [AV.rp] at hx
      subst hx
      refine ⟨fun c hc => ?_, (b : Int) :: ns, by simp, fun s => ?_⟩
      · rcases List.mem_cons.1 hc with rfl | hc
        · exact Nat.mod_lt _ (by omega)
        · exact h1 c hc
      · rw [List.foldl_cons, h3]
        have : UInt8.ofNat (b % 256) = UInt8.ofNat b := by
          apply UInt8.toNat.inj
          simp [UInt8.toNat_ofNat']
        simp [ByteArray.push, this]
section
variable {P : Program} {B : Nat} {lo : Nat} {h : Heap} {c : Nat} {lg : List Ev} {h' : Heap} {c' : Nat} {lg' : List Ev} {ρ : Pm} {w : World}
theorem strM_ok {l : List AV} {y : AV} (e : strM l lo h c lg = .ok y h' c' lg') : ∃ m, bytL l = some m ∧ y = .str m ∧ h' = h := by
  obtain ⟨m, h1, e⟩ := need_ok e
  obtain ⟨x, h2, e⟩ := need_ok e
  obtain ⟨rfl, rfl, _, _⟩ := ret_ok e
  rw [sv_eq] at h2
  injection h2 with h2
  exact ⟨m, h1, h2.symm, rfl⟩
theorem toStr_snd {s d : TypeId} {us : TypeDesc} (hs : P.underlying s = some us) (hu8 : slU8 P us = true) (hd : P.underlying d = some .string) (hr : Rep B ρ h w) {n o len cap : Nat} {b f cc : Nat} (hn : ρ n = some (b, f, cc)) {y : AV} (e : bnd (rdCs n len o) strM lo h c lg = .ok y h' c' lg') :
    VRun P B (convert s d (.slice (some ⟨b, f + o, none⟩) len cap)) ρ w y h' := by
  obtain ⟨el, rfl, he⟩ := slU8_some hu8
  obtain ⟨l, h1, c1, lg1, e1, e2⟩ := bnd_ok e
  obtain ⟨rfl, _, g3, g4⟩ := rdCs_ok e1
  obtain ⟨m, m1, rfl, rfl⟩ := strM_ok e2
  obtain ⟨vs, k1, k2, k3, _⟩ := hr.cells (P := P) g3 g4 hn
  obtain ⟨q1, ns, rfl, q3⟩ := bytL_some m1 k2
  refine VRun.here (v := .string (bytesOf m)) ?_ (by simp only [AV.rp]; exact ⟨q1, trivial⟩) hr
  rw [run_convert_bytes_string w s d el _ len cap hs he hd, run_bytesToString w _ len cap ns k1, q3]
  simp [bytesOf]
theorem rowOK_ok {n : Nat} {x y : AV} (e : rowOK n x lo h c lg = .ok y h' c' lg') : y = x ∧ h' = h ∧ ∃ el z sz o, mt h n = .row el z sz o := by
  obtain ⟨m, h1, c1, lg1, e1, e2⟩ := bnd_ok e
  obtain ⟨rfl, _, hm⟩ := rdM_ok e1
  cases m with
  | row el z sz o =>
    obtain ⟨rfl, rfl, _, _⟩ := ret_ok e2
    exact ⟨rfl, rfl, el, z, sz, o, hm⟩
  | _ => cases e2
/-- The mark of a conversion turns nothing that is told. -/
theorem mark_snd {n : Nat} (hr : Rep B ρ h w) {el : TypeId} {z sz : Nat} {o : Bool} (hm : mt h n = .row el z sz o) {b f cc : Nat} (hn : ρ n = some (b, f, cc)) (off : Nat) : ∃ w', (markStringish ⟨b, off, none⟩).run P w = .ok () w' ∧ Rep B ρ h w' ∧ Below B w w' := by
  obtain ⟨b', f', c2, ob, g1, g2, g3, g4⟩ := hr.live n (by rw [hm]; rfl)
  rw [hn] at g1
  injection g1 with g1
  injection g1 with g1 g5
  injection g5 with g5 g6
  subst g1 g5 g6
  rw [hm] at g4
  obtain ⟨arr, fz, rfl, hfz, g7, g8⟩ := g4
  have hsh : w.shape? b = some (el, arr.size) := by unfold World.shape?; rw [g3]
  have hrun : (markStringish ⟨b, off, none⟩).run P w = .ok () (w.freeze ⟨b, arr.size, none⟩ 1) := by
    simp [markStringish, hsh]
  have hheap : ∀ k, (w.freeze ⟨b, arr.size, none⟩ 1).heap[k]? = if k = b then some (.cells arr el (if fz.1 == fz.2 then (arr.size, arr.size + 1) else (min fz.1 arr.size, max fz.2 (arr.size + 1)))) else w.heap[k]? := fun k => by
    unfold World.freeze
    rw [if_neg (by omega)]
    show (w.heap.modify b _)[k]? = _
    rw [Array.getElem?_modify]
    by_cases hk : b = k
    · subst hk
      rw [if_pos rfl, if_pos rfl, g3]
      rfl
    · rw [if_neg hk, if_neg (fun e => hk e.symm)]
  have hsize : (w.freeze ⟨b, arr.size, none⟩ 1).heap.size = w.heap.size := by
    unfold World.freeze
    rw [if_neg (by omega)]
    simp
  have hok : okfz (if fz.1 == fz.2 then (arr.size, arr.size + 1) else (min fz.1 arr.size, max fz.2 (arr.size + 1))) arr.size := by
    by_cases hb : fz.1 = fz.2
    · rw [if_pos (by simpa using hb)]; exact .inr (Nat.le_refl _)
    · rw [if_neg (by simpa using hb)]
      rcases hfz with hf | hf
      · exact absurd hf hb
      · right; show arr.size ≤ min fz.1 arr.size; omega
  have bel : Below B w (w.freeze ⟨b, arr.size, none⟩ 1) := by
    have hos : (w.freeze ⟨b, arr.size, none⟩ 1).os = w.os ∧ (w.freeze ⟨b, arr.size, none⟩ 1).tape = w.tape ∧ (w.freeze ⟨b, arr.size, none⟩ 1).output = w.output := by
      unfold World.freeze
      rw [if_neg (by omega)]
      exact ⟨rfl, rfl, rfl⟩
    exact ⟨hos.1, hos.2.1, hos.2.2, by rw [hsize]; exact Nat.le_refl _, fun k hk => by rw [hheap, if_neg (by omega)]⟩
  refine ⟨_, hrun, ⟨by rw [hsize]; exact hr.size, fun m hl => ?_, hr.free, hr.apart, Sy.keep hr.inv bel, fun b2 i2 v2 h2 => ?_, hr.sep, fun m el2 sh2 e2 h1 => ?_, hr.low⟩, bel⟩
  · obtain ⟨bm, fm, cm, om, k1, k2, k3, k4⟩ := hr.live m hl
    by_cases hbm : bm = b
    · subst hbm
      rw [g3] at k3
      injection k3 with k3
      subst k3
      refine ⟨bm, fm, cm, _, k1, k2, by rw [hheap, if_pos rfl], ?_⟩
      cases hmm : mt h m with
      | row el2 z2 sz2 o2 =>
        rw [hmm] at k4
        obtain ⟨arr2, fz2, q1, q2, q3, q4⟩ := k4
        injection q1 with q1 q5 q6
        subst q1 q5 q6
        exact ⟨arr, _, rfl, hok, q3, q4⟩
      | mp es => rw [hmm] at k4; obtain ⟨_, _, q, _⟩ := k4; cases q
      | none => rw [hmm] at k4; exact k4.elim
      | tok el9 sh9 e9 => rw [hmm] at k4; exact k4.elim
      | dead => rw [hmm] at k4; exact k4.elim
    · exact ⟨bm, fm, cm, om, k1, k2, by rw [hheap, if_neg hbm]; exact k3, k4⟩
  · have hne : b2 ≠ b := fun e => by
      rw [e, hr.sep n b f cc (by rw [hm]; rfl) hn i2] at h2
      cases h2
    exact (cell_congr (by rw [hheap, if_neg hne]) _ _).trans (hr.frz b2 i2 v2 h2)
  · refine (hr.tok m el2 sh2 e2 h1).of rfl (fun _ _ _ _ _ => rfl) fun b3 f3 c3 hb3 => ?_
    rw [hheap, if_neg]
    intro e
    subst e
    have := hr.apart m n _ _ _ _ _ (by rw [h1]; rfl) (by rw [hm]; rfl) hb3 hn
    subst this
    rw [h1] at hm
    cases hm
theorem convSl_snd {s d : TypeId} {us : TypeDesc} {el : TypeId} (hs : P.underlying s = some us) (hd : P.underlying d = some (.slice el)) (hc : (slU8 P us && (Nat.beq s d && isU8 P el)) = true) {n : Nat} (hr : Rep B ρ h w) (hm : ∃ el z sz o, mt h n = .row el z sz o) {b f cc off len cap : Nat} (hn : ρ n = some (b, f, cc)) :
    ∃ w', (convert s d (.slice (some ⟨b, off, none⟩) len cap)).run P w = .ok (.slice (some ⟨b, off, none⟩) len cap) w' ∧ Rep B ρ h w' ∧ Below B w w' := by
  rw [Bool.and_eq_true, Bool.and_eq_true, Nat.beq_eq] at hc
  obtain ⟨h1, rfl, h3⟩ := hc
  obtain ⟨e2, rfl, he2⟩ := slU8_some h1
  have he := isU8_some h3
  obtain ⟨el', z, sz, o, hm⟩ := hm
  obtain ⟨w', k1, k2, k3⟩ := mark_snd (P := P) hr hm hn off
  exact ⟨w', by simp [convert, run_underlying hs, run_underlying he2, k1], k2, k3⟩
theorem conv_snd {s d : TypeId} {x y : AV} {v : Value} (e : convV P s d x lo h c lg = .ok y h' c' lg') (hr : Rep B ρ h w) (hx : x.rp ρ v) : VRun P B (convert s d v) ρ w y h' := by
  obtain ⟨us, hs, e⟩ := need_ok (show need (P.underlying s) 40 _ lo h c lg = .ok y h' c' lg' from e)
  obtain ⟨ud, hd, e⟩ := need_ok e
  cases x with
  | int k0 n =>
    cases ud <;> try (cases e; done)
    rename_i k
    obtain ⟨z, h1, e⟩ := need_ok (show need (iv k n) 30 (fun x => ret x) lo h c lg = .ok y h' c' lg' from e)
    obtain ⟨rfl, rfl, _, _⟩ := ret_ok e
    rw [iv_eq] at h1
    injection h1 with h1
    subst h1
    simp only [AV.rp] at hx
    subst hx
    refine VRun.here (v := .int k (k.wrap n)) ?_ (by simp only [AV.rp]) hr
    simp [convert, run_underlying hs, run_underlying hd, Conv.intToInt]
  | str l =>
    simp only [AV.rp] at hx
    obtain ⟨hb, rfl⟩ := hx
    cases ud <;> try (cases e; done)
    · obtain ⟨rfl, rfl, _, _⟩ := ret_ok (show ret (AV.str l) lo h c lg = .ok y h' c' lg' from e)
      refine VRun.here (v := .string (bytesOf l)) ?_ (by simp only [AV.rp]; exact ⟨hb, trivial⟩) hr
      simp [convert, run_underlying hs, run_underlying hd]
    · rename_i el
      obtain ⟨hu, e⟩ := want_ok (show want (isU8 P el) 31 (bnd (newRowM el 1 (l.map fun b => AV.int .u8 (.ofNat b)) true) fun n => fNat (lenL l) fun k => ret (.os n 1 0 k)) lo h c lg = .ok y h' c' lg' from e)
      have he := isU8_some hu
      obtain ⟨n, h1, c1, lg1, e1, e2⟩ := bnd_ok e
      rw [fNat_eq] at e2
      obtain ⟨rfl, rfl, _, _⟩ := ret_ok e2
      obtain ⟨q0, rfl, rfl, _, _⟩ := new_ok e1
      have hsz := bytesOf_size l
      have hge := grownCap_ge w (bytesOf l).size 0 el
      have hcs : (Lib.bytesCells w el (bytesOf l)).size = grownCap w (bytesOf l).size 0 el := by
        simp [Lib.bytesCells]
        have : (bytesOf l).data.size = (bytesOf l).size := rfl
        omega
      obtain ⟨ρ', k1, k2, k3, k4⟩ := hr.newW (c := grownCap w (bytesOf l).size 0 el) q0 (b := .row el 1 (lenL (l.map fun b => AV.int .u8 (.ofNat b))) (Tr.ofList (l.map fun b => AV.int .u8 (.ofNat b))) true) rfl (fun ρ' hle => by
        refine ⟨Lib.bytesCells w el (bytesOf l), _, rfl, .inr (Nat.le_refl _), fun i x hx => ?_, fun _ => ⟨by rw [hcs]; omega, by rw [lenL_eq, List.length_map]; omega⟩⟩
        have hx : (Tr.ofList (l.map fun b => AV.int .u8 (.ofNat b))).get i = some x := hx
        rw [Tr.get_ofList, List.getElem?_map] at hx
        cases hl : l[i]? with
        | none => rw [hl] at hx; cases hx
        | some b =>
          rw [hl] at hx
          injection hx with hx
          subst hx
          have hb2 := hb b (List.mem_of_getElem? hl)
          refine ⟨.int .u8 (b : Int), ?_, by simp only [AV.rp]; rfl⟩
          have hd2 : (bytesOf l).data[i]? = some (UInt8.ofNat b) := by simp [bytesOf, hl]
          have hi2 : i < (bytesOf l).data.size := (Array.getElem?_eq_some_iff.1 hd2).1
          rw [Nat.zero_add, Lib.bytesCells, Array.getElem?_append_left (by simpa using hi2), Array.getElem?_map, hd2]
          simp
          omega) (push_of (Lib.bytesWorld_at_old w el (bytesOf l)) (Lib.bytesWorld_at_new w el (bytesOf l)) (Lib.bytesWorld_size w el (bytesOf l))) rfl rfl rfl
      refine ⟨ρ', _, _, Lib.run_convert_string_bytes w s d el (bytesOf l) hs hd he, k1, ?_, k3, k4⟩
      simp only [AV.rp]
      exact ⟨_, _, _, k2, by rw [lenL_eq]; omega, by rw [lenL_eq, hsz]; simp⟩
  | nils =>
    simp only [AV.rp] at hx
    subst hx
    cases ud <;> try (cases e; done)
    obtain ⟨hu, e⟩ := want_ok (show want (slU8 P us) 36 (ret (AV.str [])) lo h c lg = .ok y h' c' lg' from e)
    obtain ⟨rfl, rfl, _, _⟩ := ret_ok e
    obtain ⟨el, rfl, he⟩ := slU8_some hu
    refine VRun.here (v := .string .empty) ?_ (by simp only [AV.rp]; exact ⟨by simp, rfl⟩) hr
    rw [run_convert_bytes_string w s d el _ 0 0 hs he hd]
    rfl
  | emp =>
    simp only [AV.rp] at hx
    obtain ⟨a, cap, rfl⟩ := hx
    cases ud <;> try (cases e; done)
    obtain ⟨hu, e⟩ := want_ok (show want (slU8 P us) 36 (ret (AV.str [])) lo h c lg = .ok y h' c' lg' from e)
    obtain ⟨rfl, rfl, _, _⟩ := ret_ok e
    obtain ⟨el, rfl, he⟩ := slU8_some hu
    refine VRun.here (v := .string .empty) ?_ (by simp only [AV.rp]; exact ⟨by simp, rfl⟩) hr
    rw [run_convert_bytes_string w s d el _ 0 cap hs he hd, run_bytesToString w a 0 cap [] rfl]
    rfl
  | oe n9 z9 f9 =>
    obtain ⟨a, cap, rfl⟩ := oe_emp hx
    cases ud <;> try (cases e; done)
    obtain ⟨hu, e⟩ := want_ok (show want (slU8 P us) 36 (ret (AV.str [])) lo h c lg = .ok y h' c' lg' from e)
    obtain ⟨rfl, rfl, _, _⟩ := ret_ok e
    obtain ⟨el, rfl, he⟩ := slU8_some hu
    refine VRun.here (v := .string .empty) ?_ (by simp only [AV.rp]; exact ⟨by simp, rfl⟩) hr
    rw [run_convert_bytes_string w s d el _ 0 cap hs he hd, run_bytesToString w a 0 cap [] rfl]
    rfl
  | sl n o len cap =>
    simp only [AV.rp] at hx
    obtain ⟨b, f, cc, hn, rfl⟩ := hx
    cases ud <;> try (cases e; done)
    · obtain ⟨hu, e⟩ := want_ok (show want (slU8 P us) 36 (bnd (rdCs n len o) strM) lo h c lg = .ok y h' c' lg' from e)
      exact toStr_snd hs hu hd hr hn e
    · rename_i el
      obtain ⟨hu, e⟩ := want_ok (show want (slU8 P us && (Nat.beq s d && isU8 P el)) 38 (rowOK n (.sl n o len cap)) lo h c lg = .ok y h' c' lg' from e)
      obtain ⟨rfl, rfl, hm⟩ := rowOK_ok e
      obtain ⟨w', k1, k2, k3⟩ := convSl_snd hs hd hu hr hm hn (off := f + o) (len := len) (cap := cap)
      exact ⟨ρ, _, w', k1, Pm.le.refl ρ, by simp only [AV.rp]; exact ⟨b, f, cc, hn, rfl⟩, k2, k3⟩
  | os n z g len =>
    simp only [AV.rp] at hx
    obtain ⟨b, f, cc, hn, hlc, rfl⟩ := hx
    cases ud <;> try (cases e; done)
    · obtain ⟨hu, e5⟩ := want_ok (show want (slU8 P us && Nat.beq z 1) 36 (bnd (rdCs n len g) strM) lo h c lg = .ok y h' c' lg' from e)
      rw [Bool.and_eq_true, Nat.beq_eq] at hu
      obtain ⟨hu, hz⟩ := hu
      rw [hz, Nat.mul_one]
      exact toStr_snd hs hu hd hr hn e5
    · rename_i el
      obtain ⟨hu, e⟩ := want_ok (show want (slU8 P us && (Nat.beq s d && isU8 P el)) 38 (rowOK n (.os n z g len)) lo h c lg = .ok y h' c' lg' from e)
      obtain ⟨rfl, rfl, hm⟩ := rowOK_ok e
      obtain ⟨w', k1, k2, k3⟩ := convSl_snd hs hd hu hr hm hn (off := f + g * z) (len := len) (cap := cc - g)
      exact ⟨ρ, _, w', k1, Pm.le.refl ρ, by simp only [AV.rp]; exact ⟨b, f, cc, hn, hlc, rfl⟩, k2, k3⟩
  | _ => cases ud <;> cases e
end
end Go.Proofs.YtdkgckgpdogimaaGreatDoor

