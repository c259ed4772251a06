/- EyS · EyU · EyV: joined by a program, for a claim has at most 60 files. -/
import Derived.Test.YtdflkikhmngfiaaGreatDoorZ09
import Derived.Deep.AppendSrc
/- The machine's conversions, in the program. -/
namespace Go.Proofs.YtdflkikhmngfiaaGreatDoor
open Go.RowKit
set_option linter.unusedVariables false
set_option linter.unusedSimpArgs false
set_option linter.unusedSectionVars false
variable [Sy] [Dc] [DcOK]

theorem Rep.heap {B : Nat} {ρ : Pm} {h : Heap} {w w' : World} (hr : Rep B ρ h w) (e : w'.heap = w.heap) (h1 : w'.os = w.os) (h2 : w'.tape = w.tape) (h3 : w'.output = w.output) : Rep B ρ h w' :=
  ⟨by rw [e]; exact hr.size, fun n hl => by rw [e]; exact hr.live n hl, hr.free, hr.apart, Sy.keep hr.inv ⟨h1, h2, h3, by rw [e]; exact Nat.le_refl _, fun k _ => by rw [e]⟩, fun b i v hv => (cell_congr (by rw [e]) _ _).trans (hr.frz b i v hv), hr.sep, fun n el sh x hx => (hr.tok n el sh x hx).of rfl (fun _ _ _ _ _ => rfl) fun _ _ _ _ => by rw [e], hr.low, fun b o hb => ⟨by rw [e]; exact (hr.gho b o hb).1, (hr.gho b o hb).2⟩⟩
/-- A new block, whatever else was drawn. -/
theorem Rep.newW {B : Nat} {ρ : Pm} {h : Heap} {w : World} (hr : Rep B ρ h w) {n : Nat} (hn : h.get n = none) {b : Blk} (hb : b.mta.live = true) {c : Nat} {o : Obj}
    (ho : ∀ ρ', ρ.le ρ' → repB ρ' 0 c b.mta (cellOf (some b)) o) {w' : World} (hh : w'.heap = w.heap.push o) (h1 : w'.os = w.os) (h2 : w'.tape = w.tape) (h3 : w'.output = w.output) :
    ∃ ρ', ρ.le ρ' ∧ ρ' n = some (w.heap.size, 0, c) ∧ Rep B ρ' (h.set n b) w' ∧ Below B w w' := by
  obtain ⟨ρ', k1, k2, k3, k4⟩ := hr.new hn hb ho
  have e : w'.heap = (w.alloc o).heap := hh
  exact ⟨ρ', k1, k2, k3.heap e h1 h2 h3, h1, h2, h3, by rw [e]; exact k4.size, fun k hk => by rw [e]; exact k4.block k hk⟩
theorem push_of {w w' : World} {o : Obj} (h1 : ∀ j, j < w.heap.size → w'.heap[j]? = w.heap[j]?) (h2 : w'.heap[w.heap.size]? = some o) (h3 : w'.heap.size = w.heap.size + 1) : w'.heap = w.heap.push o := by
  apply Array.ext_getElem?
  intro i
  rw [Array.getElem?_push]
  by_cases hi : i = w.heap.size
  · rw [if_pos hi, hi, h2]
  · rw [if_neg hi]
    by_cases hl : i < w.heap.size
    · exact h1 i hl
    · rw [Array.getElem?_eq_none (by omega), Array.getElem?_eq_none (by omega)]
theorem isU8_some {P : Program} {e : TypeId} (h : isU8 P e = true) : P.underlying e = some (.int .u8) := by
  unfold isU8 at h
  split at h
  · assumption
  · cases h
theorem slU8_some {P : Program} {d : TypeDesc} (h : slU8 P d = true) : ∃ e, d = .slice e ∧ P.underlying e = some (.int .u8) := by
  unfold slU8 at h
  split at h
  · exact ⟨_, rfl, isU8_some h⟩
  · cases h
theorem bytL_some {ρ : Pm} : ∀ {l : List AV} {m : List Nat} {vs : List Value}, bytL l = some m → AV.rps ρ l vs → (∀ b ∈ m, b < 256) ∧ ∃ ns : List Int, vs = ns.map (Value.int .u8) ∧ ∀ s : ByteArray, ns.foldl (fun r n => r.push (UInt8.ofNat n.toNat)) s = ⟨s.data ++ (m.map UInt8.ofNat).toArray⟩
  | [], m, vs, e, hv => by
    have e : some [] = some m := e
    injection e with e
    subst e
    rw [rps_nil] at hv
    subst hv
    exact ⟨by simp, [], rfl, fun s => by simp⟩
  | x :: l, m, vs, e, hv => by
    rw [rps_cons] at hv
    obtain ⟨y, m', rfl, hx, hl⟩ := hv
    have e : bytS x (bytL l) = some m := e
    have hb : ∃ b : Nat, x = .int .u8 (.ofNat b) := by
      unfold bytS at e
      split at e
      · exact ⟨_, rfl⟩
      · cases e
    obtain ⟨b, rfl⟩ := hb
    obtain ⟨m2, he, e⟩ := bind_some' (show (bytL l).bind (fun m => some ((b % 256) :: m)) = some m from e)
    injection e with e
    subst e
    · obtain ⟨h1, ns, rfl, h3⟩ := bytL_some he hl
      simp only [AV.rp] at hx
      subst hx
      refine ⟨fun c hc => ?_, (b : Int) :: ns, by simp, fun s => ?_⟩
      · rcases List.mem_cons.1 hc with rfl | hc
        · exact Nat.mod_lt _ (by omega)
        · exact h1 c hc
      · rw [List.foldl_cons, h3]
        have : UInt8.ofNat (b % 256) = UInt8.ofNat b := by
          apply UInt8.toNat.inj
          simp [UInt8.toNat_ofNat']
        simp [ByteArray.push, this]
section
variable {P : Program} {B : Nat} {lo : Nat} {h : Heap} {c : Nat} {lg : List Ev} {h' : Heap} {c' : Nat} {lg' : List Ev} {ρ : Pm} {w : World}
theorem strM_ok {l : List AV} {y : AV} (e : strM l lo h c lg = .ok y h' c' lg') : ∃ m, bytL l = some m ∧ y = .str m ∧ h' = h := by
  obtain ⟨m, h1, e⟩ := need_ok e
  obtain ⟨x, h2, e⟩ := need_ok e
  obtain ⟨rfl, rfl, _, _⟩ := ret_ok e
  rw [sv_eq] at h2
  injection h2 with h2
  exact ⟨m, h1, h2.symm, rfl⟩
theorem toStr_snd {s d : TypeId} {us : TypeDesc} (hs : P.underlying s = some us) (hu8 : slU8 P us = true) (hd : P.underlying d = some .string) (hr : Rep B ρ h w) {n o len cap : Nat} {b f cc : Nat} (hn : ρ n = some (b, f, cc)) {y : AV} (e : bnd (rdCs n len o) strM lo h c lg = .ok y h' c' lg') :
    VRun P B (convert s d (.slice (some ⟨b, f + o, none⟩) len cap)) ρ w y h' := by
  obtain ⟨el, rfl, he⟩ := slU8_some hu8
  obtain ⟨l, h1, c1, lg1, e1, e2⟩ := bnd_ok e
  obtain ⟨rfl, _, g3, g4⟩ := rdCs_ok e1
  obtain ⟨m, m1, rfl, rfl⟩ := strM_ok e2
  obtain ⟨vs, k1, k2, k3, _⟩ := hr.cells (P := P) g3 g4 hn
  obtain ⟨q1, ns, rfl, q3⟩ := bytL_some m1 k2
  refine VRun.here (v := .string (bytesOf m)) ?_ (by simp only [AV.rp]; exact ⟨q1, trivial⟩) hr
  rw [run_convert_bytes_string w s d el _ len cap hs he hd, run_bytesToString w _ len cap ns k1, q3]
  simp [bytesOf]
theorem rowOK_ok {n : Nat} {x y : AV} (e : rowOK n x lo h c lg = .ok y h' c' lg') : y = x ∧ h' = h ∧ ∃ el z sz o, mt h n = .row el z sz o := by
  obtain ⟨m, h1, c1, lg1, e1, e2⟩ := bnd_ok e
  obtain ⟨rfl, _, hm⟩ := rdM_ok e1
  cases m with
  | row el z sz o =>
    obtain ⟨rfl, rfl, _, _⟩ := ret_ok e2
    exact ⟨rfl, rfl, el, z, sz, o, hm⟩
  | _ => cases e2
/-- The mark of a conversion turns nothing that is told. -/
theorem mark_snd {n : Nat} (hr : Rep B ρ h w) {el : TypeId} {z sz : Nat} {o : Bool} (hm : mt h n = .row el z sz o) {b f cc : Nat} (hn : ρ n = some (b, f, cc)) (off : Nat) : ∃ w', (markStringish ⟨b, off, none⟩).run P w = .ok () w' ∧ Rep B ρ h w' ∧ Below B w w' := by
  obtain ⟨b', f', c2, ob, g1, g2, g3, g4⟩ := hr.live n (by rw [hm]; rfl)
  rw [hn] at g1
  injection g1 with g1
  injection g1 with g1 g5
  injection g5 with g5 g6
  subst g1 g5 g6
  rw [hm] at g4
  obtain ⟨arr, fz, rfl, hfz, g7, g8⟩ := g4
  have hsh : w.shape? b = some (el, arr.size) := by unfold World.shape?; rw [g3]
  have hrun : (markStringish ⟨b, off, none⟩).run P w = .ok () (w.freeze ⟨b, arr.size, none⟩ 1) := by
    simp [markStringish, hsh]
  have hheap : ∀ k, (w.freeze ⟨b, arr.size, none⟩ 1).heap[k]? = if k = b then some (.cells arr el (if fz.1 == fz.2 then (arr.size, arr.size + 1) else (min fz.1 arr.size, max fz.2 (arr.size + 1)))) else w.heap[k]? := fun k => by
    unfold World.freeze
    rw [if_neg (by omega)]
    show (w.heap.modify b _)[k]? = _
    rw [Array.getElem?_modify]
    by_cases hk : b = k
    · subst hk
      rw [if_pos rfl, if_pos rfl, g3]
      rfl
    · rw [if_neg hk, if_neg (fun e => hk e.symm)]
  have hsize : (w.freeze ⟨b, arr.size, none⟩ 1).heap.size = w.heap.size := by
    unfold World.freeze
    rw [if_neg (by omega)]
    simp
  have hok : okfz (if fz.1 == fz.2 then (arr.size, arr.size + 1) else (min fz.1 arr.size, max fz.2 (arr.size + 1))) arr.size := by
    by_cases hb : fz.1 = fz.2
    · rw [if_pos (by simpa using hb)]; exact .inr (Nat.le_refl _)
    · rw [if_neg (by simpa using hb)]
      rcases hfz with hf | hf
      · exact absurd hf hb
      · right; show arr.size ≤ min fz.1 arr.size; omega
  have bel : Below B w (w.freeze ⟨b, arr.size, none⟩ 1) := by
    have hos : (w.freeze ⟨b, arr.size, none⟩ 1).os = w.os ∧ (w.freeze ⟨b, arr.size, none⟩ 1).tape = w.tape ∧ (w.freeze ⟨b, arr.size, none⟩ 1).output = w.output := by
      unfold World.freeze
      rw [if_neg (by omega)]
      exact ⟨rfl, rfl, rfl⟩
    exact ⟨hos.1, hos.2.1, hos.2.2, by rw [hsize]; exact Nat.le_refl _, fun k hk => by rw [hheap, if_neg (by omega)]⟩
  refine ⟨_, hrun, ⟨by rw [hsize]; exact hr.size, fun m hl => ?_, hr.free, hr.apart, Sy.keep hr.inv bel, fun b2 i2 v2 h2 => ?_, hr.sep, fun m el2 sh2 e2 h1 => ?_, hr.low, fun b2 o2 hb2 => ⟨by rw [hheap, if_neg (hr.gne (by rw [hm]; rfl) hn hb2)]; exact (hr.gho b2 o2 hb2).1, (hr.gho b2 o2 hb2).2⟩⟩, bel⟩
  · obtain ⟨bm, fm, cm, om, k1, k2, k3, k4⟩ := hr.live m hl
    by_cases hbm : bm = b
    · subst hbm
      rw [g3] at k3
      injection k3 with k3
      subst k3
      refine ⟨bm, fm, cm, _, k1, k2, by rw [hheap, if_pos rfl], ?_⟩
      cases hmm : mt h m with
      | row el2 z2 sz2 o2 =>
        rw [hmm] at k4
        obtain ⟨arr2, fz2, q1, q2, q3, q4⟩ := k4
        injection q1 with q1 q5 q6
        subst q1 q5 q6
        exact ⟨arr, _, rfl, hok, q3, q4⟩
      | mp es => rw [hmm] at k4; obtain ⟨_, _, q, _⟩ := k4; cases q
      | none => rw [hmm] at k4; exact k4.elim
      | tok el9 sh9 e9 => rw [hmm] at k4; exact k4.elim
      | dead => rw [hmm] at k4; exact k4.elim
    · exact ⟨bm, fm, cm, om, k1, k2, by rw [hheap, if_neg hbm]; exact k3, k4⟩
  · have hne : b2 ≠ b := fun e => by
      rw [e, hr.sep n b f cc (by rw [hm]; rfl) hn i2] at h2
      cases h2
    exact (cell_congr (by rw [hheap, if_neg hne]) _ _).trans (hr.frz b2 i2 v2 h2)
  · refine (hr.tok m el2 sh2 e2 h1).of rfl (fun _ _ _ _ _ => rfl) fun b3 f3 c3 hb3 => ?_
    rw [hheap, if_neg]
    intro e
    subst e
    have := hr.apart m n _ _ _ _ _ (by rw [h1]; rfl) (by rw [hm]; rfl) hb3 hn
    subst this
    rw [h1] at hm
    cases hm
theorem convSl_snd {s d : TypeId} {us : TypeDesc} {el : TypeId} (hs : P.underlying s = some us) (hd : P.underlying d = some (.slice el)) (hc : (slU8 P us && (Nat.beq s d && isU8 P el)) = true) {n : Nat} (hr : Rep B ρ h w) (hm : ∃ el z sz o, mt h n = .row el z sz o) {b f cc off len cap : Nat} (hn : ρ n = some (b, f, cc)) :
    ∃ w', (convert s d (.slice (some ⟨b, off, none⟩) len cap)).run P w = .ok (.slice (some ⟨b, off, none⟩) len cap) w' ∧ Rep B ρ h w' ∧ Below B w w' := by
  rw [Bool.and_eq_true, Bool.and_eq_true, Nat.beq_eq] at hc
  obtain ⟨h1, rfl, h3⟩ := hc
  obtain ⟨e2, rfl, he2⟩ := slU8_some h1
  have he := isU8_some h3
  obtain ⟨el', z, sz, o, hm⟩ := hm
  obtain ⟨w', k1, k2, k3⟩ := mark_snd (P := P) hr hm hn off
  exact ⟨w', by simp [convert, run_underlying hs, run_underlying he2, k1], k2, k3⟩
theorem conv_snd {s d : TypeId} {x y : AV} {v : Value} (e : convV P s d x lo h c lg = .ok y h' c' lg') (hr : Rep B ρ h w) (hx : x.rp ρ v) : VRun P B (convert s d v) ρ w y h' := by
  obtain ⟨us, hs, e⟩ := need_ok (show need (P.underlying s) 40 _ lo h c lg = .ok y h' c' lg' from e)
  obtain ⟨ud, hd, e⟩ := need_ok e
  cases x with
  | int k0 n =>
    cases ud <;> try (cases e; done)
    rename_i k
    obtain ⟨z, h1, e⟩ := need_ok (show need (iv k n) 30 (fun x => ret x) lo h c lg = .ok y h' c' lg' from e)
    obtain ⟨rfl, rfl, _, _⟩ := ret_ok e
    rw [iv_eq] at h1
    injection h1 with h1
    subst h1
    simp only [AV.rp] at hx
    subst hx
    refine VRun.here (v := .int k (k.wrap n)) ?_ (by simp only [AV.rp]) hr
    simp [convert, run_underlying hs, run_underlying hd, Conv.intToInt]
  | str l =>
    simp only [AV.rp] at hx
    obtain ⟨hb, rfl⟩ := hx
    cases ud <;> try (cases e; done)
    · obtain ⟨rfl, rfl, _, _⟩ := ret_ok (show ret (AV.str l) lo h c lg = .ok y h' c' lg' from e)
      refine VRun.here (v := .string (bytesOf l)) ?_ (by simp only [AV.rp]; exact ⟨hb, trivial⟩) hr
      simp [convert, run_underlying hs, run_underlying hd]
    · rename_i el
      obtain ⟨hu, e⟩ := want_ok (show want (isU8 P el) 31 (bnd (newRowM el 1 (l.map fun b => AV.int .u8 (.ofNat b)) true) fun n => fNat (lenL l) fun k => ret (.os n 1 0 k)) lo h c lg = .ok y h' c' lg' from e)
      have he := isU8_some hu
      obtain ⟨n, h1, c1, lg1, e1, e2⟩ := bnd_ok e
      rw [fNat_eq] at e2
      obtain ⟨rfl, rfl, _, _⟩ := ret_ok e2
      obtain ⟨q0, rfl, rfl, _, _⟩ := new_ok e1
      have hsz := bytesOf_size l
      have hge := grownCap_ge w (bytesOf l).size 0 el
      have hcs : (Lib.bytesCells w el (bytesOf l)).size = grownCap w (bytesOf l).size 0 el := by
        simp [Lib.bytesCells]
        have : (bytesOf l).data.size = (bytesOf l).size := rfl
        omega
      obtain ⟨ρ', k1, k2, k3, k4⟩ := hr.newW (c := grownCap w (bytesOf l).size 0 el) q0 (b := .row el 1 (lenL (l.map fun b => AV.int .u8 (.ofNat b))) (Tr.ofList (l.map fun b => AV.int .u8 (.ofNat b))) true) rfl (fun ρ' hle => by
        refine ⟨Lib.bytesCells w el (bytesOf l), _, rfl, .inr (Nat.le_refl _), fun i x hx => ?_, fun _ => ⟨by rw [hcs]; omega, by rw [lenL_eq, List.length_map]; omega⟩⟩
        have hx : (Tr.ofList (l.map fun b => AV.int .u8 (.ofNat b))).get i = some x := hx
        rw [Tr.get_ofList, List.getElem?_map] at hx
        cases hl : l[i]? with
        | none => rw [hl] at hx; cases hx
        | some b =>
          rw [hl] at hx
          injection hx with hx
          subst hx
          have hb2 := hb b (List.mem_of_getElem? hl)
          refine ⟨.int .u8 (b : Int), ?_, by simp only [AV.rp]; rfl⟩
          have hd2 : (bytesOf l).data[i]? = some (UInt8.ofNat b) := by simp [bytesOf, hl]
          have hi2 : i < (bytesOf l).data.size := (Array.getElem?_eq_some_iff.1 hd2).1
          rw [Nat.zero_add, Lib.bytesCells, Array.getElem?_append_left (by simpa using hi2), Array.getElem?_map, hd2]
          simp
          omega) (push_of (Lib.bytesWorld_at_old w el (bytesOf l)) (Lib.bytesWorld_at_new w el (bytesOf l)) (Lib.bytesWorld_size w el (bytesOf l))) rfl rfl rfl
      refine ⟨ρ', _, _, Lib.run_convert_string_bytes w s d el (bytesOf l) hs hd he, k1, ?_, k3, k4⟩
      simp only [AV.rp]
      exact ⟨_, _, _, k2, by rw [lenL_eq]; omega, by rw [lenL_eq, hsz]; simp⟩
  | nils =>
    simp only [AV.rp] at hx
    subst hx
    cases ud <;> try (cases e; done)
    obtain ⟨hu, e⟩ := want_ok (show want (slU8 P us) 36 (ret (AV.str [])) lo h c lg = .ok y h' c' lg' from e)
    obtain ⟨rfl, rfl, _, _⟩ := ret_ok e
    obtain ⟨el, rfl, he⟩ := slU8_some hu
    refine VRun.here (v := .string .empty) ?_ (by simp only [AV.rp]; exact ⟨by simp, rfl⟩) hr
    rw [run_convert_bytes_string w s d el _ 0 0 hs he hd]
    rfl
  | emp =>
    simp only [AV.rp] at hx
    obtain ⟨a, cap, rfl⟩ := hx
    cases ud <;> try (cases e; done)
    obtain ⟨hu, e⟩ := want_ok (show want (slU8 P us) 36 (ret (AV.str [])) lo h c lg = .ok y h' c' lg' from e)
    obtain ⟨rfl, rfl, _, _⟩ := ret_ok e
    obtain ⟨el, rfl, he⟩ := slU8_some hu
    refine VRun.here (v := .string .empty) ?_ (by simp only [AV.rp]; exact ⟨by simp, rfl⟩) hr
    rw [run_convert_bytes_string w s d el _ 0 cap hs he hd, run_bytesToString w a 0 cap [] rfl]
    rfl
  | oe n9 z9 f9 =>
    obtain ⟨a, cap, rfl⟩ := oe_emp hx
    cases ud <;> try (cases e; done)
    obtain ⟨hu, e⟩ := want_ok (show want (slU8 P us) 36 (ret (AV.str [])) lo h c lg = .ok y h' c' lg' from e)
    obtain ⟨rfl, rfl, _, _⟩ := ret_ok e
    obtain ⟨el, rfl, he⟩ := slU8_some hu
    refine VRun.here (v := .string .empty) ?_ (by simp only [AV.rp]; exact ⟨by simp, rfl⟩) hr
    rw [run_convert_bytes_string w s d el _ 0 cap hs he hd, run_bytesToString w a 0 cap [] rfl]
    rfl
  | sl n o len cap =>
    simp only [AV.rp] at hx
    obtain ⟨b, f, cc, hn, rfl⟩ := hx
    cases ud <;> try (cases e; done)
    · obtain ⟨hu, e⟩ := want_ok (show want (slU8 P us) 36 (bnd (rdCs n len o) strM) lo h c lg = .ok y h' c' lg' from e)
      exact toStr_snd hs hu hd hr hn e
    · rename_i el
      obtain ⟨hu, e⟩ := want_ok (show want (slU8 P us && (Nat.beq s d && isU8 P el)) 38 (rowOK n (.sl n o len cap)) lo h c lg = .ok y h' c' lg' from e)
      obtain ⟨rfl, rfl, hm⟩ := rowOK_ok e
      obtain ⟨w', k1, k2, k3⟩ := convSl_snd hs hd hu hr hm hn (off := f + o) (len := len) (cap := cap)
      exact ⟨ρ, _, w', k1, Pm.le.refl ρ, by simp only [AV.rp]; exact ⟨b, f, cc, hn, rfl⟩, k2, k3⟩
  | os n z g len =>
    simp only [AV.rp] at hx
    obtain ⟨b, f, cc, hn, hlc, rfl⟩ := hx
    cases ud <;> try (cases e; done)
    · obtain ⟨hu, e5⟩ := want_ok (show want (slU8 P us && Nat.beq z 1) 36 (bnd (rdCs n len g) strM) lo h c lg = .ok y h' c' lg' from e)
      rw [Bool.and_eq_true, Nat.beq_eq] at hu
      obtain ⟨hu, hz⟩ := hu
      rw [hz, Nat.mul_one]
      exact toStr_snd hs hu hd hr hn e5
    · rename_i el
      obtain ⟨hu, e⟩ := want_ok (show want (slU8 P us && (Nat.beq s d && isU8 P el)) 38 (rowOK n (.os n z g len)) lo h c lg = .ok y h' c' lg' from e)
      obtain ⟨rfl, rfl, hm⟩ := rowOK_ok e
      obtain ⟨w', k1, k2, k3⟩ := convSl_snd hs hd hu hr hm hn (off := f + g * z) (len := len) (cap := cc - g)
      exact ⟨ρ, _, w', k1, Pm.le.refl ρ, by simp only [AV.rp]; exact ⟨b, f, cc, hn, hlc, rfl⟩, k2, k3⟩
  | _ => cases ud <;> cases e
end
end Go.Proofs.YtdflkikhmngfiaaGreatDoor


/- The machine's append and copy, in the program. -/
namespace Go.Proofs.YtdflkikhmngfiaaGreatDoor
open Go.RowKit
set_option linter.unusedVariables false
set_option linter.unusedSimpArgs false
set_option linter.unusedSectionVars false
variable [Sy] [Dc] [DcOK]

section
variable {P : Program} {w : World}
def SrcK (P : Program) (t : TypeId) : Prop := (∃ e', P.underlying t = some (.slice e')) ∨ P.underlying t = some .string
theorem app_fit {ty t t1 e : TypeId} {k : Nat} {x : Value} {n sLen cap : Nat} {vs : List Value} {a : Addr} {w' : World} (hu : P.underlying t = some (.slice e)) (hk1 : SrcK P t1)
    (hk : ∀ w, (sizeOf e).run P w = .ok k w) (hn : (Builtin.lenOf x).run P w = .ok n w) (hc : (Builtin.firstCells k n x).run P w = .ok vs.toArray w) (hfit : sLen + n ≤ cap) (hst : (storeCells (a.add (sLen * k)) vs).run P w = .ok () w') :
    (Builtin.append_ #[t, t1] ty #[.slice (some a) sLen cap, x]).run P w = .ok (.slice (some a) (sLen + n) cap) w' := by
  rcases hk1 with ⟨e', hu1⟩ | hu1 <;> simp [Builtin.append_, run_underlying hu, run_underlying hu1, hk, hn, hc, hfit, hst]
theorem app_none {ty t t1 e : TypeId} {k : Nat} {x : Value} {cap : Nat} (hu : P.underlying t = some (.slice e)) (hk1 : SrcK P t1)
    (hk : ∀ w, (sizeOf e).run P w = .ok k w) (hn : (Builtin.lenOf x).run P w = .ok 0 w) (hc : (Builtin.firstCells k 0 x).run P w = .ok #[] w) :
    (Builtin.append_ #[t, t1] ty #[.slice none 0 cap, x]).run P w = .ok (.slice none 0 cap) w := by
  rcases hk1 with ⟨e', hu1⟩ | hu1 <;> simp [Builtin.append_, run_underlying hu, run_underlying hu1, hk, hn, hc]
theorem growBy_le (m : Nat) : ∀ (r c : Nat), c ≤ m → 256 ≤ c → Builtin.growBy m r c ≤ 2 * m
  | 0, c, h, _ => by unfold Builtin.growBy; omega
  | r + 1, c, h, h2 => by
    unfold Builtin.growBy
    split
    · omega
    · by_cases h3 : c + (c + 768) / 4 ≤ m
      · exact growBy_le m r _ h3 (by omega)
      · cases r with
        | zero => unfold Builtin.growBy; omega
        | succ r => unfold Builtin.growBy; rw [if_pos (by omega)]; omega
theorem next_le {m c : Nat} (h : c < m) : Builtin.nextslicecap m c ≤ 2 * m := by
  unfold Builtin.nextslicecap
  split
  · omega
  · split
    · omega
    · exact growBy_le m 4 c (by omega) (by omega)
theorem app_grow {ty t t1 e : TypeId} {i : TypeInfo} {z x : Value} {n sLen cap : Nat} {olds vs : List Value} {a : Option Addr} (hu : P.underlying t = some (.slice e)) (hk1 : SrcK P t1)
    (hi : P.info? e = some i) (hz : i.zero = some z) (hn : (Builtin.lenOf x).run P w = .ok n w) (hc : (Builtin.firstCells i.size n x).run P w.drew = .ok vs.toArray w.drew)
    (ho : (Builtin.firstCells i.size sLen (.slice a sLen cap)).run P w.drew = .ok olds.toArray w.drew) (hg : cap < sLen + n) (hb : i.bytes ≤ 10000) (hneed : sLen + n ≤ 1000000) :
    (Builtin.append_ #[t, t1] ty #[.slice a sLen cap, x]).run P w = .ok (.slice (some ⟨w.heap.size, 0, none⟩) (sLen + n) (grownCap w (sLen + n) cap e))
      (w.drew.alloc (.cells ((olds ++ vs).toArray ++ Builtin.zeroCells z.cells (grownCap w (sLen + n) cap e - (sLen + n))) e)) := by
  have h48 : ¬ (281474976710656 < Builtin.nextslicecap (sLen + n) cap * i.bytes) := by
    have := Nat.mul_le_mul (next_le hg) hb
    omega
  have hn' : ¬ (sLen + n ≤ cap) := by omega
  have h63' : ¬ (9223372036854775807 < ((sLen : Int) + (n : Int))) := by omega
  rcases hk1 with ⟨e', hk⟩ | hk <;>
    (simp [Builtin.append_, run_underlying hu, run_underlying hk, sizeOf, typeInfo, zeroValue, hi, hz, hn, hn', h63', h48, Question.forced, hc, ho, newRow, grownCap]
     congr 2
     apply Array.ext'
     simp [List.append_assoc])
/-- 'append(s, make(..)...)': so many zero elements. -/
theorem appz_fit {ty t t1 e : TypeId} {kk : IntKind} {i : TypeInfo} {z : Value} {n sLen cap : Nat} {a : Addr} {w' : World} (hu : P.underlying t = some (.slice e)) (hu1 : P.underlying t1 = some (.int kk))
    (hi : P.info? e = some i) (hz : i.zero = some z) (hb : i.bytes ≤ 10000) (hn : n ≤ 10000) (hfit : sLen + n ≤ cap) (hst : (storeCells (a.add (sLen * i.size)) (if n * i.size = 0 then [] else (Builtin.zeroCells z.cells n).toList)).run P w = .ok () w') :
    (Builtin.append_ #[t, t1] ty #[.slice (some a) sLen cap, .int .i64 (n : Int)]).run P w = .ok (.slice (some a) (sLen + n) cap) w' := by
  have hw : IntKind.i64.wrap (n : Int) = (n : Int) := IntWalk.i64_in _ (by omega)
  have h0 : ¬ ((n : Int) < 0) := by omega
  have h48 : ¬ (281474976710656 < (n : Int) * (i.bytes : Int)) := by
    have : n * i.bytes ≤ 10000 * 10000 := Nat.mul_le_mul hn hb
    have h2 : ((n * i.bytes : Nat) : Int) ≤ ((10000 * 10000 : Nat) : Int) := by exact_mod_cast this
    rw [Int.natCast_mul] at h2
    omega
  by_cases hz0 : n * i.size = 0
  · rw [if_pos hz0] at hst
    simp [Builtin.append_, run_underlying hu, run_underlying hu1, sizeOf, typeInfo, zeroValue, hi, hz, asInt, asIntOf, hw, h0, h48, hfit, hz0, hst]
  · rw [if_neg hz0] at hst
    simp [Builtin.append_, run_underlying hu, run_underlying hu1, sizeOf, typeInfo, zeroValue, hi, hz, asInt, asIntOf, hw, h0, h48, hfit, hz0, hst]
end
end Go.Proofs.YtdflkikhmngfiaaGreatDoor


/- The machine's append and copy, in the program: the steps. -/
namespace Go.Proofs.YtdflkikhmngfiaaGreatDoor
open Go.RowKit
set_option linter.unusedVariables false
set_option linter.unusedSimpArgs false
set_option linter.unusedSectionVars false
variable [Sy] [Dc] [DcOK]

/-- Values, stored in a row, wherever there is room. -/
theorem store_many {P : Program} {b o : Nat} {el : TypeId} {fz : Nat × Nat} : ∀ (vs : List Value) (i : Nat) (w : World) (arr : Array Value), w.heap[b]? = some (.cells arr el fz) → okfz fz arr.size → o + i + vs.length ≤ arr.size → (∀ v ∈ vs, (∀ a, v ≠ .agg a) ∧ ∀ a, v ≠ .tuple a) →
    ∃ w' arr', (storeCells ⟨b, o, none⟩ vs i).run P w = .ok () w' ∧ w'.heap[b]? = some (.cells arr' el fz) ∧ arr'.size = arr.size ∧ (∀ j, arr'[j]? = if o + i ≤ j ∧ j < o + i + vs.length then vs[j - (o + i)]? else arr[j]?) ∧
      (∀ k, k ≠ b → w'.heap[k]? = w.heap[k]?) ∧ w'.heap.size = w.heap.size ∧ w'.os = w.os ∧ w'.tape = w.tape ∧ w'.output = w.output
  | [], i, w, arr, hb, hf, hl, h1 => ⟨w, arr, rfl, hb, rfl, fun j => by rw [if_neg (by simp only [List.length_nil]; omega)], fun _ _ => rfl, rfl, rfl, rfl, rfl⟩
  | v :: vs, i, w, arr, hb, hf, hl, h1 => by
    simp only [List.length_cons] at hl
    have hi : o + i < arr.size := by omega
    have hcell : w.cell? ⟨b, o + i, none⟩ = some arr[o + i] := by
      unfold World.cell?
      rw [hb]
      simp [hi]
    have hfr := okfz_frozen hb hf hi
    have hh := setCell_heap w b (o + i) v hb
    obtain ⟨q1, q2⟩ := h1 v (by simp)
    obtain ⟨w', arr', k1, k2, k3, k4, k5, k6, k7, k8, k9⟩ := store_many (P := P) (o := o) vs (i + 1) (w.setCell ⟨b, o + i, none⟩ v) (arr.setIfInBounds (o + i) v) (by rw [hh, if_pos rfl]) (by simpa using hf) (by simp; omega) (fun u hu => h1 u (by simp [hu]))
    refine ⟨w', arr', ?_, k2, by rw [k3]; simp, fun j => ?_, fun k hk => by rw [k5 k hk, hh, if_neg hk], by rw [k6]; simp [World.setCell], k7, k8, k9⟩
    · have hst : (store ((⟨b, o, none⟩ : Addr).add i) v).run P w = .ok () (w.setCell ⟨b, o + i, none⟩ v) := by
        rw [addr_add]
        unfold store
        cases v with
        | agg a => exact absurd rfl (q1 a)
        | tuple a => exact absurd rfl (q2 a)
        | _ => simp [Sem.run, hcell, hfr]
      show ((store ((⟨b, o, none⟩ : Addr).add i) v) >>= fun _ => storeCells ⟨b, o, none⟩ vs (i + 1)).run P w = _
      rw [Sem.run_bind, hst]
      exact k1
    · rw [k4 j, List.length_cons, Array.getElem?_setIfInBounds]
      by_cases hj : o + (i + 1) ≤ j ∧ j < o + (i + 1) + vs.length
      · rw [if_pos hj, if_pos (by omega), show j - (o + i) = (j - (o + (i + 1))) + 1 by omega, List.getElem?_cons_succ]
      · rw [if_neg hj]
        by_cases he : o + i = j
        · rw [if_pos he, if_pos hi, if_pos (by omega), show j - (o + i) = 0 by omega]; rfl
        · rw [if_neg he, if_neg (by omega)]
theorem lenOf_rp {P : Program} {ρ : Pm} {x : AV} {v : Value} {n : Nat} (e : lenV x = some n) (hx : x.rp ρ v) (hm : x ≠ .nilm) (w : World) : (Builtin.lenOf v).run P w = .ok n w := by
  cases x with
  | str l =>
    injection e with e
    simp only [AV.rp] at hx
    obtain ⟨_, rfl⟩ := hx
    rw [← e, lenL_eq, ← bytesOf_size]
    rfl
  | nils => injection e with e; subst e; simp only [AV.rp] at hx; subst hx; rfl
  | sl n o len cap => injection e with e; subst e; simp only [AV.rp] at hx; obtain ⟨_, _, _, _, rfl⟩ := hx; rfl
  | os n z f len => injection e with e; subst e; simp only [AV.rp] at hx; obtain ⟨_, _, _, _, _, rfl⟩ := hx; rfl
  | emp => injection e with e; subst e; simp only [AV.rp] at hx; obtain ⟨_, _, rfl⟩ := hx; rfl
  | oe n9 z9 f9 => injection e with e; subst e; obtain ⟨_, _, rfl⟩ := oe_emp hx; rfl
  | nilm => exact absurd rfl hm
  | _ => cases e
section
variable {P : Program} {B : Nat} {lo : Nat} {h : Heap} {c : Nat} {lg : List Ev} {h' : Heap} {c' : Nat} {lg' : List Ev} {ρ : Pm} {w : World}
/-- The cells of q elements, in any world that the state tells of. -/
theorem src_snd {k : Nat} {x : AV} {q n : Nat} {l : List AV} {v : Value} (e : srcM k x q lo h c lg = .ok l h' c' lg') (hq : q ≤ n) (hn : lenV x = some n) (hx : x.rp ρ v) :
    h' = h ∧ ∀ w : World, Rep B ρ h w → ∃ vs : List Value, (Builtin.firstCells k q v).run P w = .ok vs.toArray w ∧ AV.rps ρ l vs := by
  cases x with
  | str s =>
    obtain ⟨_, e⟩ := want_ok (show want (Nat.beq k 1) 60 (ret ((takeL q s).map fun b => AV.int .u8 (.ofNat b))) lo h c lg = .ok l h' c' lg' from e)
    obtain ⟨rfl, rfl, _, _⟩ := ret_ok e
    simp only [AV.rp] at hx
    obtain ⟨hb, rfl⟩ := hx
    refine ⟨rfl, fun w hr => ⟨(s.take q).map fun (b : Nat) => Value.int .u8 (b : Int), ?_, ?_⟩⟩
    · have : (((bytesOf s).extract 0 q).data.map fun b => Value.int .u8 (b.toNat : Int)) = ((s.take q).map fun (b : Nat) => Value.int .u8 (b : Int)).toArray := by
        apply Array.ext'
        rw [Array.toList_map, ByteArray.data_extract, Array.toList_extract, bytesOf_toList, List.extract_eq_take_drop]
        simp only [List.drop_zero, Nat.sub_zero, ← List.map_take, List.map_map]
        apply List.map_congr_left
        intro b hb2
        have := hb b (List.mem_of_mem_take hb2)
        simp
        omega
      show (Sem.pure _ : Sem (Array Value)).run P w = _
      rw [this]
      rfl
    · rw [takeL_eq]
      refine rps_at.2 ⟨by simp, fun i y hy => ?_⟩
      rw [List.getElem?_map] at hy ⊢
      cases hs : (s.take q)[i]? with
      | none => rw [hs] at hy; cases hy
      | some b =>
        rw [hs] at hy
        injection hy with hy
        subst hy
        exact ⟨_, rfl, by simp only [AV.rp]; rfl⟩
  | nils =>
    obtain ⟨rfl, rfl, _, _⟩ := ret_ok (show ret [] lo h c lg = .ok l h' c' lg' from e)
    simp only [AV.rp] at hx
    subst hx
    exact ⟨rfl, fun w hr => ⟨[], rfl, rps_nil.2 rfl⟩⟩
  | emp =>
    obtain ⟨rfl, rfl, _, _⟩ := ret_ok (show ret [] lo h c lg = .ok l h' c' lg' from e)
    simp only [AV.rp] at hx
    obtain ⟨a, cc, rfl⟩ := hx
    injection hn with hn
    obtain rfl : q = 0 := by omega
    refine ⟨rfl, fun w hr => ⟨[], ?_, rps_nil.2 rfl⟩⟩
    show (loadCells a (0 * k)).run P w = _
    rw [Nat.zero_mul]
    rfl
  | oe n9 z9 f9 =>
    obtain ⟨rfl, rfl, _, _⟩ := ret_ok (show ret [] lo h c lg = .ok l h' c' lg' from e)
    obtain ⟨a, cc, rfl⟩ := oe_emp hx
    injection hn with hn
    obtain rfl : q = 0 := by omega
    refine ⟨rfl, fun w hr => ⟨[], ?_, rps_nil.2 rfl⟩⟩
    show (loadCells a (0 * k)).run P w = _
    rw [Nat.zero_mul]
    rfl
  | sl m o len cap =>
    simp only [AV.rp] at hx
    obtain ⟨b, f, cc, hm, rfl⟩ := hx
    obtain ⟨rfl, _, g3, g4⟩ := rdCs_ok (show rdCs m (Nat.mul q k) o lo h c lg = .ok l h' c' lg' from e)
    refine ⟨rfl, fun w hr => ?_⟩
    obtain ⟨vs, k1, k2, _, _⟩ := hr.cells (P := P) g3 g4 hm
    exact ⟨vs, k1, k2⟩
  | os m z f len =>
    simp only [AV.rp] at hx
    obtain ⟨b, g, cc, hm, hlc, rfl⟩ := hx
    have e : (bif Nat.beq z k then rdCs m (Nat.mul q k) (Nat.mul f z) else fail [60]) lo h c lg = .ok l h' c' lg' := e
    cases hz : Nat.beq z k with
    | false => rw [hz] at e; cases e
    | true =>
      rw [hz] at e
      obtain ⟨rfl, _, g3, g4⟩ := rdCs_ok (show rdCs m (Nat.mul q k) (Nat.mul f z) lo h c lg = .ok l h' c' lg' from e)
      refine ⟨rfl, fun w hr => ?_⟩
      obtain ⟨vs, k1, k2, _, _⟩ := hr.cells (P := P) g3 g4 hm
      exact ⟨vs, k1, k2⟩
  | _ => cases e
theorem src_len {k : Nat} {x : AV} {n : Nat} {l : List AV} (e : srcM k x n lo h c lg = .ok l h' c' lg') (hn : lenV x = some n) : l.length = n * k := by
  cases x with
  | str s =>
    obtain ⟨hk, e⟩ := want_ok (show want (Nat.beq k 1) 60 (ret ((takeL n s).map fun b => AV.int .u8 (.ofNat b))) lo h c lg = .ok l h' c' lg' from e)
    obtain ⟨rfl, rfl, _, _⟩ := ret_ok e
    have hk := Nat.eq_of_beq_eq_true hk
    injection hn with hn
    rw [lenL_eq] at hn
    rw [List.length_map, takeL_eq, List.length_take, hk, hn]
    omega
  | nils =>
    obtain ⟨rfl, rfl, _, _⟩ := ret_ok (show ret [] lo h c lg = .ok l h' c' lg' from e)
    injection hn with hn
    rw [← hn, Nat.zero_mul]; rfl
  | emp =>
    obtain ⟨rfl, rfl, _, _⟩ := ret_ok (show ret [] lo h c lg = .ok l h' c' lg' from e)
    injection hn with hn
    rw [← hn, Nat.zero_mul]; rfl
  | oe n9 z9 f9 =>
    obtain ⟨rfl, rfl, _, _⟩ := ret_ok (show ret [] lo h c lg = .ok l h' c' lg' from e)
    injection hn with hn
    rw [← hn, Nat.zero_mul]; rfl
  | sl m o len cap => exact (rdCs_ok (show rdCs m (Nat.mul n k) o lo h c lg = .ok l h' c' lg' from e)).2.2.1
  | os m z f len =>
    have e : (bif Nat.beq z k then rdCs m (Nat.mul n k) (Nat.mul f z) else fail [60]) lo h c lg = .ok l h' c' lg' := e
    cases hz : Nat.beq z k with
    | false => rw [hz] at e; cases e
    | true => rw [hz] at e; exact (rdCs_ok (show rdCs m (Nat.mul n k) (Nat.mul f z) lo h c lg = .ok l h' c' lg' from e)).2.2.1
  | _ => cases e
theorem lenV_ne {x : AV} {n : Nat} (e : lenV x = some n) (h0 : n ≠ 0) : x ≠ .nilm := fun hx => by
  subst hx
  injection e with e
  exact h0 e.symm
theorem size2 {ts : Array TypeId} {t0 t1 : TypeId} (h0 : ts[0]? = some t0) (h1 : ts[1]? = some t1) (h2 : ts.size = 2) : ts = #[t0, t1] := by
  apply Array.ext_getElem?
  intro i
  match i with
  | 0 => simpa using h0
  | 1 => simpa using h1
  | i + 2 => rw [Array.getElem?_eq_none (by omega), Array.getElem?_eq_none (by simp)]
/-- Values, written to cells that are told. -/
theorem put_snd {n b f cc o : Nat} (hn : ρ n = some (b, f, cc)) {l : List AV} {vs : List Value} {u : Unit} (e : wrCs n l o lo h c lg = .ok u h' c' lg') (hv : AV.rps ρ l vs) (hr : Rep B ρ h w) : ∃ w', (storeCells ⟨b, f + o, none⟩ vs).run P w = .ok () w' ∧ Rep B ρ h' w' ∧ Below B w w' := by
  obtain ⟨w', k1, k2, k3, _⟩ := stores_snd (P := P) hn (o := o) (i := 0) e hv hr
  exact ⟨w', k1, k2, k3⟩
theorem copy_snd {ts : Array TypeId} {ty : TypeId} {d x y : AV} {vd vx : Value} (e : copyM P ts d x lo h c lg = .ok y h' c' lg') (hr : Rep B ρ h w) (hd : d.rp ρ vd) (hx : x.rp ρ vx) : VRun P B (Builtin.copy_ ts ty #[vd, vx]) ρ w y h' := by
  obtain ⟨el, h1, e⟩ := need_ok (show need ((ts[0]?).bind (elS P)) 72 _ lo h c lg = .ok y h' c' lg' from e)
  obtain ⟨t0, h0, h1⟩ := bind_some' h1
  obtain ⟨k, h2, e⟩ := need_ok e
  obtain ⟨n, h3, e⟩ := need_ok e
  obtain ⟨hnm0, e⟩ := want_ok e
  have hnm : x ≠ .nilm := fun hh => by subst hh; cases hnm0
  have hu := elS_some h1
  have hlen := lenOf_rp (P := P) h3 hx hnm w
  have hk : ∀ w, (sizeOf el).run P w = .ok k w := fun w => run_szO h2 w
  cases d with
  | sl m o len cap =>
    simp only [AV.rp] at hd
    obtain ⟨b, f, cc, hn, rfl⟩ := hd
    have e : fNat (Nat.min n len) (fun q => bnd (srcM k x q) fun l => bnd (wrCs m l o) fun _ => ret (.int .i64 (.ofNat q))) lo h c lg = .ok y h' c' lg' := e
    rw [fNat_eq] at e
    obtain ⟨l, ha, ca, lga, e1, e2⟩ := bnd_ok e
    obtain ⟨u, hb, cb, lgb, e3, e4⟩ := bnd_ok e2
    obtain ⟨rfl, rfl, _, _⟩ := ret_ok e4
    obtain ⟨rfl, hs⟩ := src_snd (P := P) (B := B) e1 (Nat.min_le_left n len) h3 hx
    obtain ⟨vs, k1, k2⟩ := hs w hr
    obtain ⟨w', m1, m2, m3⟩ := put_snd (P := P) hn e3 k2 hr
    refine ⟨ρ, .int .i64 ((Nat.min n len : Nat) : Int), w', ?_, Pm.le.refl ρ, by simp only [AV.rp]; rfl, m2, m3⟩
    simp [Builtin.copy_, h0, run_underlying hu, hlen, hk, k1, m1, goInt]
  | os m z g len =>
    simp only [AV.rp] at hd
    obtain ⟨b, f, cc, hn, hlc, rfl⟩ := hd
    obtain ⟨hz, e⟩ := want_ok (show want (Nat.beq z k) 75 (fNat (Nat.min n len) fun q => bnd (srcM k x q) fun l => bnd (wrCs m l (Nat.mul g k)) fun _ => ret (.int .i64 (.ofNat q))) lo h c lg = .ok y h' c' lg' from e)
    have hz := Nat.eq_of_beq_eq_true hz
    rw [fNat_eq] at e
    obtain ⟨l, ha, ca, lga, e1, e2⟩ := bnd_ok e
    obtain ⟨u, hb, cb, lgb, e3, e4⟩ := bnd_ok e2
    obtain ⟨rfl, rfl, _, _⟩ := ret_ok e4
    obtain ⟨rfl, hs⟩ := src_snd (P := P) (B := B) e1 (Nat.min_le_left n len) h3 hx
    obtain ⟨vs, k1, k2⟩ := hs w hr
    obtain ⟨w', m1, m2, m3⟩ := put_snd (P := P) hn e3 k2 hr
    refine ⟨ρ, .int .i64 ((Nat.min n len : Nat) : Int), w', ?_, Pm.le.refl ρ, by simp only [AV.rp]; rfl, m2, m3⟩
    rw [hz]
    have m1 : (storeCells ⟨b, f + g * k, none⟩ vs).run P w = .ok () w' := m1
    simp [Builtin.copy_, h0, run_underlying hu, hlen, hk, k1, m1, goInt]
  | _ => cases e
end
end Go.Proofs.YtdflkikhmngfiaaGreatDoor

