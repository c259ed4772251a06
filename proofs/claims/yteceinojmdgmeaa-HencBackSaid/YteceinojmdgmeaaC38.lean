/- Qt · HnB: joined by a program, for a claim has at most 60 files. -/
import Derived.Test.YteceinojmdgmeaaC02
import Derived.Test.YteceinojmdgmeaaC37
import Derived.Test.YteceinojmdgmeaaC21
import Derived.Test.YteceinojmdgmeaaC13
import Derived.Deep.DeepCutAuto
/- A quicker walk through a long region that draws its order and only reads, or calls what makes new memory: an operation at a time, the region itself out of sight. -/
namespace Go.Proofs.Yteceinojmdgmeaa
open Go.RowKit
set_option linter.unusedVariables false
set_option linter.unusedSimpArgs false

section
variable {P : Program} {C : World → Prop} {ops : Array Oper} {Q : Act → Prop}
theorem q_plain {a a' : Act} {o : Oper} {rest : List Oper} {v : Value} {d : Option Tmp} (hg : o.guard = none) (hd : o.dst = d) (hv : ∀ W, C W → QAt P o a C W v) (ha : a.put d v = a') (h : QRest P ops C Q rest a') : QRest P ops C Q (o :: rest) a := by
  unfold QRest wpQuiet
  rw [if_pos (by simp [Region.wanted, hg])]
  exact ⟨v, hv, by rw [hd, ha]; exact h⟩
theorem q_yes {a a' : Act} {o : Oper} {rest : List Oper} {v : Value} {d : Option Tmp} {g t : Nat} {b : Bool} (hg : o.guard = some (g, b)) (ht : (ops[g]?).bind (·.dst) = some t) (hb : a.tmps[t]? = some (.bool b)) (hd : o.dst = d)
    (hv : ∀ W, C W → QAt P o a C W v) (ha : a.put d v = a') (h : QRest P ops C Q rest a') : QRest P ops C Q (o :: rest) a := by
  unfold QRest wpQuiet
  rw [if_pos (by simp [Region.wanted, hg, yielded, ht, hb])]
  exact ⟨v, hv, by rw [hd, ha]; exact h⟩
theorem q_no {a a' : Act} {o : Oper} {rest : List Oper} {d : Option Tmp} {g t : Nat} {b c : Bool} (hg : o.guard = some (g, b)) (ht : (ops[g]?).bind (·.dst) = some t) (hb : a.tmps[t]? = some (.bool c)) (hbc : (c == b) = false) (hd : o.dst = d)
    (ha : a.put d undef = a') (h : QRest P ops C Q rest a') : QRest P ops C Q (o :: rest) a := by
  unfold QRest wpQuiet
  rw [if_neg (by simp [Region.wanted, hg, yielded, ht, hb]; simpa using hbc), hd, ha]
  exact h
/-- The guard's slot is the region's first slot and the guard's number. -/
theorem q_yesB (base : Nat) {a a' : Act} {o : Oper} {rest : List Oper} {v : Value} {d : Option Tmp} {g : Nat} {b : Bool} (hg : o.guard = some (g, b)) (ht : (ops[g]?).bind (·.dst) = some (base + g)) (hb : a.tmps[base + g]? = some (.bool b)) (hd : o.dst = d)
    (hv : ∀ W, C W → QAt P o a C W v) (ha : a.put d v = a') (h : QRest P ops C Q rest a') : QRest P ops C Q (o :: rest) a :=
  q_yes hg ht hb hd hv ha h
/-- What the slots become; no equation, lest a simplifier closes it before it has looked. -/
def IsAct (a a' : Act) : Prop := a = a'
theorem isAct_rfl (a : Act) : IsAct a a := rfl
/-- The same, for a walk that seeks the value itself. -/
theorem q_plainE {a : Act} {o : Oper} {rest : List Oper} {d : Option Tmp} (hg : o.guard = none) (hd : o.dst = d) (h : ∃ v, (∀ W, C W → QAt P o a C W v) ∧ ∃ a', IsAct (a.put d v) a' ∧ QRest P ops C Q rest a') : QRest P ops C Q (o :: rest) a := by
  obtain ⟨v, hv, a', ha, h⟩ := h
  exact q_plain hg hd hv ha h
theorem q_yesE (base : Nat) {a : Act} {o : Oper} {rest : List Oper} {d : Option Tmp} {g : Nat} {b : Bool} (hg : o.guard = some (g, b)) (ht : (ops[g]?).bind (·.dst) = some (base + g)) (hb : a.tmps[base + g]? = some (.bool b)) (hd : o.dst = d)
    (h : ∃ v, (∀ W, C W → QAt P o a C W v) ∧ ∃ a', IsAct (a.put d v) a' ∧ QRest P ops C Q rest a') : QRest P ops C Q (o :: rest) a := by
  obtain ⟨v, hv, a', ha, h⟩ := h
  exact q_yes hg ht hb hd hv ha h
end
end Go.Proofs.Yteceinojmdgmeaa


/- henc.item: the walk. -/
namespace Go.Proofs.Yteceinojmdgmeaa
open Go.RowKit
set_option linter.unusedVariables false
set_option linter.unusedSimpArgs false

/-- A field's item, by what Find tells. -/
def eItem (p : Nat) (x : Bool) (mx : Int) (f : Fld) : Itm :=
  if (x && !f.never) = true then ⟨0, p, ⟨#[]⟩, ⟨#[]⟩⟩
  else ⟨if f.never = true then 3 else if (f.sz : Int) ≤ mx / 2 then 1 else 2, p, if p = 0 then f.name else ⟨#[]⟩, f.value⟩
def EItemPost (T : List Fld) (mx : Int) (f : Fld) (w : World) (e : Ending) (w' : World) : Prop :=
  ∃ p x, DFound T f.name f.value p x ∧ e = .returned (.agg #[.int .u8 (((eItem p x mx f).kind : Nat) : Int), .int .i64 (eItem p x mx f).index, .string (eItem p x mx f).name, .string (eItem p x mx f).value]) ∧ Below w.heap.size w w'
/-- What stands at the beginning. -/
structure Ei (w : World) (mx : Int) (v : Value) (f : Fld) (W : World) : Prop where
  tb : W.heap[w.heap.size]? = some (.cells #[.int .i64 mx, v] 28 (0, 0))
  fr : FRow W (w.heap.size + 1) f
  rs : W.heap[w.heap.size + 2]? = some (.cells #[.int .u8 0, .int .i64 0, .string ⟨#[]⟩, .string ⟨#[]⟩] 49 (0, 0))
  below : Below w.heap.size w W
  lt : w.heap.size + 2 < W.heap.size
theorem Ei.step {w W W' : World} {mx : Int} {v : Value} {f : Fld} (h : Ei w mx v f W) (hb : Below W.heap.size W W') : Ei w mx v f W' :=
  ⟨(hb.block _ (by have := h.lt; omega)).trans h.tb, h.fr.step hb, (hb.block _ h.lt).trans h.rs, bs_hd h.below hb, Nat.lt_of_lt_of_le h.lt hb.size⟩
theorem Ei.setCell {w W : World} {mx : Int} {v : Value} {f : Fld} (h : Ei w mx v f W) {g i : Nat} (hg : w.heap.size + 2 < g) (u : Value) : Ei w mx v f (W.setCell ⟨g, i, none⟩ u) := by
  have e : ∀ k, k ≠ g → (W.setCell ⟨g, i, none⟩ u).heap[k]? = W.heap[k]? := fun k hk => heap_setCell_other _ ⟨g, i, none⟩ k _ hk
  exact ⟨(e _ (by omega)).trans h.tb, (e _ (by omega)).trans h.fr, (e _ (by omega)).trans h.rs, h.below.setCell (p := ⟨g, i, none⟩) (by show w.heap.size ≤ g; omega) _, by rw [World.size_setCell]; exact h.lt⟩
theorem Ei.new (w : World) (mx : Int) (v : Value) (f : Fld) : Ei w mx v f (((w.alloc (.cells #[.int .i64 mx, v] 28)).alloc (.cells #[.string f.name, .string f.value, .bool f.never] 25)).alloc (.cells #[.int .u8 0, .int .i64 0, .string ⟨#[]⟩, .string ⟨#[]⟩] 49)) :=
  ⟨three0 _ _ _ _, three1 _ _ _ _, three2 _ _ _ _, bs_hd (bs_hd (below_new _) (below_new _)) (below_new _), by simp⟩
theorem IRow.put0 {W : World} {g k k2 : Nat} {i : Int} {nm vl : ByteArray} (h : IRow W g k i nm vl) : IRow (W.setCell ⟨g, 0, none⟩ (.int .u8 (k2 : Int))) g k2 i nm vl := by
  unfold IRow at *
  rw [setCell_eq_setRow _ _ _ _ _ _ _ h]
  exact setRow_heap _ _ _ _ _ _ h
theorem IRow.put2 {W : World} {g k : Nat} {i : Int} {nm nm2 vl : ByteArray} (h : IRow W g k i nm vl) : IRow (W.setCell ⟨g, 2, none⟩ (.string nm2)) g k i nm2 vl := by
  unfold IRow at *
  rw [setCell_eq_setRow _ _ _ _ _ _ _ h]
  exact setRow_heap _ _ _ _ _ _ h
set_option maxRecDepth 100000 in
set_option maxHeartbeats 4000000 in
theorem eitem_any (mx : Int) (h0 : 0 ≤ mx) (h4 : mx ≤ 4096) (oa : Option Addr) (n cap : Nat) (T : List Fld) (hn : T.length = n) (hn30 : n ≤ 1000) (f : Fld) (hlf : lightF f = true) (w : World) (hf : FieldsN w oa T) :
    Calls Try.prog 62 #[.agg #[.int .i64 mx, .slice oa n cap], .agg #[.string f.name, .string f.value, .bool f.never]] w (EItemPost T mx f w) := by
  have HH := Lib.hid (Ei.new w mx (.slice oa n cap) f)
  have HFD := Lib.hid (fun W (hW : Below w.heap.size w W) => dFind_any mx oa n cap T hn hn30 f.name f.value W (hf.below hW))
  have hl2 : f.name.size ≤ 40000 ∧ f.value.size ≤ 40000 := by simpa [lightF] using hlf
  have HSZ := Lib.hid (fun W => field_size f.name f.value f.never (by omega) (by omega) W)
  have hsz : (f.name.size : Int) + (f.value.size : Int) + 32 = (f.sz : Int) := by
    have : f.sz = f.name.size + f.value.size + 32 := rfl
    omega
  rw [hsz] at HSZ
  unfold DFindPost at HFD
  unfold EItemPost
  have hq : Int.tdiv mx 2 = mx / 2 := Int.tdiv_eq_ediv_of_nonneg h0
  have hw2 : IntKind.i64.wrap (mx / 2) = mx / 2 := IntWalk.i64_in _ (by omega)
  have HEI := Lib.hid (fun p x => show eItem p x mx f = if (x && !f.never) = true then ⟨0, p, ⟨#[]⟩, ⟨#[]⟩⟩ else ⟨if f.never = true then 3 else if (f.sz : Int) ≤ mx / 2 then 1 else 2, p, if p = 0 then f.name else ⟨#[]⟩, f.value⟩ from rfl)
  clear hf hn hn30 hlf hl2 hsz h0 h4
  obtain ⟨fn, fv, fb⟩ := f
  dsimp only at HH HFD HSZ HEI ⊢
  generalize ((Fld.sz ⟨fn, fv, fb⟩ : Nat) : Int) = sz at HSZ HEI
  go_enter Try.func62, Try.ntmps62
  go_upto_region 1 with fail
  generalize (((w.alloc (.cells #[.int .i64 mx, .slice oa n cap] 28)).alloc (.cells #[.string fn, .string fv, .bool fb] 25)).alloc (.cells #[.int .u8 0, .int .i64 0, .string ⟨#[]⟩, .string ⟨#[]⟩] 49)) = w1 at HH ⊢
  have t0 := cell_of_row _ _ 0 _ _ _ HH.out.tb
  have t1 := cell_of_row _ _ 1 _ _ _ HH.out.tb
  have x0 := HH.out.fr.c0
  have x1 := HH.out.fr.c1
  go_upto_region 2 with (first | (go_at_call 29; refine (HFD.out _ HH.out.below).mono ?_; rintro e w2 ⟨p, x, hdf, rfl, hb⟩; have HDF := Lib.hid hdf; replace HH := Lib.hid (HH.out.step hb); clear hdf hb))
  clear t0 t1 x0 x1
  replace HEI := Lib.hid (HEI.out p x)
  generalize hR : eItem p x mx ⟨fn, fv, fb⟩ = R at HEI
  have HRE := Lib.hid hR
  clear hR
  have x1 := HH.out.fr.c1
  have x2 := HH.out.fr.c2
  have x0 := HH.out.fr.c0
  dsimp only at x0 x1 x2
  by_cases hx : (x && !fb) = true
  · rw [if_pos hx] at HEI
    have hx2 : x = true ∧ fb = false := by simpa using hx
    obtain ⟨rfl, rfl⟩ := hx2
    clear hx
    go_wp2_with (first | (refine wpList_store_row rfl _ _ _ rfl (w.heap.size + 2) #[.int .u8 0, .int .i64 (p : Int), .string ⟨#[]⟩, .string ⟨#[]⟩] rfl rfl _ _ HH.out.rs (by kernel_rfl) rfl (by kernel_rfl) ?_))
    try rw [Exit.noGoto_ret]
    exact bodyPost_ret (v := .agg #[.int .u8 0, .int .i64 (p : Int), .string ⟨#[]⟩, .string ⟨#[]⟩]) (results_cell_row rfl _ _ (w.heap.size + 2) _ _ (0, 0) _ rfl (setRow_heap _ _ _ _ _ _ HH.out.rs) Try.underlying49 rfl (by kernel_rfl)) rfl
      ⟨p, true, HDF.out, by rw [show eItem p true mx ⟨fn, fv, false⟩ = ⟨0, p, ⟨#[]⟩, ⟨#[]⟩⟩ from rfl]; rfl, below_row HH.out.below (by omega) _⟩
  · rw [if_neg hx] at HEI
    have hxf : (x && !fb) = false := by simpa using hx
    clear hx
    go_cut [22] (fun v22 wx => v22 = .bool false ∧ w2 = wx)
    case first =>
      cases x
      · go_wp2_with fail
        go_meet
        exact ⟨rfl, rfl⟩
      · cases fb
        · cases hxf
        · go_wp2_with fail
          go_meet
          exact ⟨rfl, rfl⟩
    case rest =>
      obtain ⟨rfl, rfl⟩ := hcut
      clear hxf HFD
      go_upto_region 5 with fail
      have HX := Lib.hid (show IRow (w2.alloc (.cells #[.int .u8 2, .int .i64 (p : Int), .string ⟨#[]⟩, .string fv] 49)) w2.heap.size 2 (p : Int) ⟨#[]⟩ fv from heap_alloc_new w2 _)
      have HG7 := Lib.hid HH.out.lt
      replace HH := Lib.hid (HH.out.step (below_new (.cells #[.int .u8 2, .int .i64 (p : Int), .string ⟨#[]⟩, .string fv] 49)))
      generalize w2.alloc (.cells #[.int .u8 2, .int .i64 (p : Int), .string ⟨#[]⟩, .string fv] 49) = w3 at HX HH ⊢
      generalize w2.heap.size = g7 at HX HG7 ⊢
      clear x0 x1 x2
      have x0 := HH.out.fr.c0
      dsimp only at x0
      have y2 := HX.out.c2
      have z2 := frozen_of_row _ _ 2 _ _ HX.out
      go_upto_if 30 with fail
      go_cut [] (fun wx => IRow wx g7 2 (p : Int) (if p = 0 then fn else ⟨#[]⟩) fv ∧ Ei w mx (.slice oa n cap) ⟨fn, fv, fb⟩ wx)
      case first =>
        by_cases hp : p = 0
        · have q1 : ((p : Int) == 0) = true := by rw [hp]; rfl
          have q2 : (p == 0) = true := by rw [hp]; rfl
          have HIF := Lib.hid (show (if p = 0 then fn else (⟨#[]⟩ : ByteArray)) = fn from if_pos hp)
          have HP := Lib.hid hp
          clear hp
          go_wp2_with fail
          go_meet
          exact ⟨by rw [HIF.out]; exact HX.out.put2, HH.out.setCell HG7.out _⟩
        · have q1 : ((p : Int) == 0) = false := beq_eq_false_iff_ne.2 (by omega)
          have q2 : (p == 0) = false := beq_eq_false_iff_ne.2 hp
          have HIF := Lib.hid (show (if p = 0 then fn else (⟨#[]⟩ : ByteArray)) = ⟨#[]⟩ from if_neg hp)
          go_wp2_with fail
          go_meet
          exact ⟨by rw [HIF.out]; exact HX.out, HH.out⟩
      case rest =>
        obtain ⟨hxr, hhr⟩ := hcut
        clear x0 y2 z2 HX HH
        generalize (if p = 0 then fn else (⟨#[]⟩ : ByteArray)) = nm at HEI hxr
        have HXX := Lib.hid (And.intro hxr hhr)
        clear hxr hhr
        go_upto_region 7 with fail
        refine class_region (C := fun W => IRow W g7 2 (p : Int) nm fv ∧ Ei w mx (.slice oa n cap) ⟨fn, fv, fb⟩ W) (by kernel_rfl) (by kernel_rfl) ⟨HXX.out.1, HXX.out.2.step ((Below.refl _ _).drew)⟩ ?_
        clear HXX
        repeat
          (with_reducible refine q_plainE rfl rfl ?_)
          apply Exists.intro
          with_reducible refine ⟨?_, ?_⟩
          · intro W hW
            unfold QAt
            first
              | (go_simp; done)
              | (go_simp; with_reducible rfl)
              | (have a0 := hW.2.fr.c0
                 have a1 := hW.2.fr.c1
                 have a2 := hW.2.fr.c2
                 have b0 := cell_of_row _ _ 0 _ _ _ hW.2.tb
                 dsimp only at a0 a1 a2
                 first | (go_simp; done) | go_simp
                 first
                   | done
                   | (with_reducible rfl)
                   | (go_at_call 47; refine (HSZ.out _).mono ?_; rintro e w11 ⟨rfl, hb⟩; exact ⟨rfl, hW.1.step hb, hW.2.step hb⟩))
          apply Exists.intro
          with_reducible refine ⟨?_, ?_⟩
          · simp only [Act.put, List.setIfInBounds_toArray, List.set_cons_zero, List.set_cons_succ]
            exact isAct_rfl _
        with_reducible refine qrest_nil ?_
        intro w4 hw4
        have HX := Lib.hid hw4.1
        have HH := Lib.hid hw4.2
        clear hw4
        have y0 := HX.out.c0
        have z0 := frozen_of_row _ _ 0 _ _ HX.out
        go_upto_if 39 with fail
        go_cut [] (fun wx => IRow wx g7 (if sz ≤ mx / 2 then 1 else 2) (p : Int) nm fv ∧ Ei w mx (.slice oa n cap) ⟨fn, fv, fb⟩ wx)
        case first =>
          by_cases hs : sz ≤ mx / 2
          · have q1 : decide (sz ≤ mx / 2) = true := decide_eq_true hs
            have HIF := Lib.hid (show (if sz ≤ mx / 2 then (1 : Nat) else 2) = 1 from if_pos hs)
            go_wp2_with fail
            go_meet
            exact ⟨by rw [HIF.out]; exact HX.out.put0 (k2 := 1), HH.out.setCell HG7.out _⟩
          · have q1 : decide (sz ≤ mx / 2) = false := decide_eq_false hs
            have HIF := Lib.hid (show (if sz ≤ mx / 2 then (1 : Nat) else 2) = 2 from if_neg hs)
            go_wp2_with fail
            go_meet
            exact ⟨by rw [HIF.out]; exact HX.out, HH.out⟩
        case rest =>
          obtain ⟨hxr, hhr⟩ := hcut
          clear y0 z0 HX HH
          generalize (if sz ≤ mx / 2 then (1 : Nat) else 2) = kk at HEI hxr
          have HX := Lib.hid hxr
          have HH := Lib.hid hhr
          clear hxr hhr
          have x2 := HH.out.fr.c2
          dsimp only at x2
          have y0 := HX.out.c0
          have z0 := frozen_of_row _ _ 0 _ _ HX.out
          go_upto_if 42 with fail
          go_cut [] (fun wx => IRow wx g7 (if fb = true then 3 else kk) (p : Int) nm fv ∧ Ei w mx (.slice oa n cap) ⟨fn, fv, fb⟩ wx)
          case first =>
            cases fb
            · go_wp2_with fail
              go_meet
              exact ⟨HX.out, HH.out⟩
            · go_wp2_with fail
              go_meet
              exact ⟨HX.out.put0 (k2 := 3), HH.out.setCell HG7.out _⟩
          case rest =>
            obtain ⟨hxr, hhr⟩ := hcut
            clear x2 y0 z0 HX HH
            generalize (if fb = true then (3 : Nat) else kk) = k3 at HEI hxr
            have HX := Lib.hid hxr
            have HH := Lib.hid hhr
            clear hxr hhr
            have y0 := HX.out.c0
            have y1 := HX.out.c1
            have y2 := HX.out.c2
            have y3 := HX.out.c3
            have HRS := Lib.hid (show wc.heap[w.heap.size + 1 + 1]? = some (.cells #[.int .u8 0, .int .i64 0, .string ⟨#[]⟩, .string ⟨#[]⟩] 49 (0, 0)) from HH.out.rs)
            go_wp2_with (first | (refine wpList_store_row rfl _ _ _ rfl (w.heap.size + 1 + 1) #[.int .u8 (k3 : Int), .int .i64 (p : Int), .string nm, .string fv] rfl rfl _ _ HRS.out (by kernel_rfl) rfl (by kernel_rfl) ?_))
            try rw [Exit.noGoto_ret]
            exact bodyPost_ret (v := .agg #[.int .u8 (k3 : Int), .int .i64 (p : Int), .string nm, .string fv]) (results_cell_row rfl _ _ (w.heap.size + 1 + 1) _ _ (0, 0) _ rfl (setRow_heap _ _ _ _ _ _ HRS.out) Try.underlying49 rfl (by kernel_rfl)) rfl
              ⟨p, x, HDF.out, by rw [HRE.out, HEI.out], below_row HH.out.below (by omega) _⟩
end Go.Proofs.Yteceinojmdgmeaa

