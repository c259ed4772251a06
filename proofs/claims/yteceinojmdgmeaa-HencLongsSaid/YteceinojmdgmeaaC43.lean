/- Qt · HdU: joined by a program, for a claim has at most 60 files. -/
import Derived.Test.YteceinojmdgmeaaC01
import Derived.Test.YteceinojmdgmeaaC42
import Derived.Lib.SlBytesConst
/- A quicker walk through a long region that draws its order and only reads, or calls what makes new memory: an operation at a time, the region itself out of sight. -/
namespace Go.Proofs.Yteceinojmdgmeaa
open Go.RowKit
set_option linter.unusedVariables false
set_option linter.unusedSimpArgs false

section
variable {P : Program} {C : World → Prop} {ops : Array Oper} {Q : Act → Prop}
theorem q_plain {a a' : Act} {o : Oper} {rest : List Oper} {v : Value} {d : Option Tmp} (hg : o.guard = none) (hd : o.dst = d) (hv : ∀ W, C W → QAt P o a C W v) (ha : a.put d v = a') (h : QRest P ops C Q rest a') : QRest P ops C Q (o :: rest) a := by
  unfold QRest wpQuiet
  rw [if_pos (by simp [Region.wanted, hg])]
  exact ⟨v, hv, by rw [hd, ha]; exact h⟩
theorem q_yes {a a' : Act} {o : Oper} {rest : List Oper} {v : Value} {d : Option Tmp} {g t : Nat} {b : Bool} (hg : o.guard = some (g, b)) (ht : (ops[g]?).bind (·.dst) = some t) (hb : a.tmps[t]? = some (.bool b)) (hd : o.dst = d)
    (hv : ∀ W, C W → QAt P o a C W v) (ha : a.put d v = a') (h : QRest P ops C Q rest a') : QRest P ops C Q (o :: rest) a := by
  unfold QRest wpQuiet
  rw [if_pos (by simp [Region.wanted, hg, yielded, ht, hb])]
  exact ⟨v, hv, by rw [hd, ha]; exact h⟩
theorem q_no {a a' : Act} {o : Oper} {rest : List Oper} {d : Option Tmp} {g t : Nat} {b c : Bool} (hg : o.guard = some (g, b)) (ht : (ops[g]?).bind (·.dst) = some t) (hb : a.tmps[t]? = some (.bool c)) (hbc : (c == b) = false) (hd : o.dst = d)
    (ha : a.put d undef = a') (h : QRest P ops C Q rest a') : QRest P ops C Q (o :: rest) a := by
  unfold QRest wpQuiet
  rw [if_neg (by simp [Region.wanted, hg, yielded, ht, hb]; simpa using hbc), hd, ha]
  exact h
/-- The guard's slot is the region's first slot and the guard's number. -/
theorem q_yesB (base : Nat) {a a' : Act} {o : Oper} {rest : List Oper} {v : Value} {d : Option Tmp} {g : Nat} {b : Bool} (hg : o.guard = some (g, b)) (ht : (ops[g]?).bind (·.dst) = some (base + g)) (hb : a.tmps[base + g]? = some (.bool b)) (hd : o.dst = d)
    (hv : ∀ W, C W → QAt P o a C W v) (ha : a.put d v = a') (h : QRest P ops C Q rest a') : QRest P ops C Q (o :: rest) a :=
  q_yes hg ht hb hd hv ha h
/-- What the slots become; no equation, lest a simplifier closes it before it has looked. -/
def IsAct (a a' : Act) : Prop := a = a'
theorem isAct_rfl (a : Act) : IsAct a a := rfl
/-- The same, for a walk that seeks the value itself. -/
theorem q_plainE {a : Act} {o : Oper} {rest : List Oper} {d : Option Tmp} (hg : o.guard = none) (hd : o.dst = d) (h : ∃ v, (∀ W, C W → QAt P o a C W v) ∧ ∃ a', IsAct (a.put d v) a' ∧ QRest P ops C Q rest a') : QRest P ops C Q (o :: rest) a := by
  obtain ⟨v, hv, a', ha, h⟩ := h
  exact q_plain hg hd hv ha h
theorem q_yesE (base : Nat) {a : Act} {o : Oper} {rest : List Oper} {d : Option Tmp} {g : Nat} {b : Bool} (hg : o.guard = some (g, b)) (ht : (ops[g]?).bind (·.dst) = some (base + g)) (hb : a.tmps[base + g]? = some (.bool b)) (hd : o.dst = d)
    (h : ∃ v, (∀ W, C W → QAt P o a C W v) ∧ ∃ a', IsAct (a.put d v) a' ∧ QRest P ops C Q rest a') : QRest P ops C Q (o :: rest) a := by
  obtain ⟨v, hv, a', ha, h⟩ := h
  exact q_yes hg ht hb hd hv ha h
end
end Go.Proofs.Yteceinojmdgmeaa


/- footmanlaw06.awake: the walk. -/
namespace Go.Proofs.Yteceinojmdgmeaa
open Go.RowKit
set_option linter.unusedVariables false
set_option linter.unusedSimpArgs false

def Blk1 (w : World) (e : Ending) (w' : World) : Prop := ∃ ob cb oc cc, e = .returned (.tuple #[.agg #[.int .i64 4096, .slice ob 1 cb, .int .i64 4096], .slice oc 4 cc, .bool true, .int .i64 0]) ∧ 1 ≤ cb ∧ 4 ≤ cc ∧ FieldsN w' ob LAu ∧ FieldsN w' oc L4 ∧ Below w.heap.size w w'
def BlkE (er : Int) (w : World) (e : Ending) (w' : World) : Prop := ∃ ob cb oc cc, e = .returned (.tuple #[.agg #[.int .i64 4096, .slice ob 0 cb, .int .i64 4096], .slice oc 0 cc, .bool false, .int .i64 er]) ∧ Below w.heap.size w w'
theorem blk_go (m : Nat) (bs : List Nat) (hm : bs.length = m) (hm5 : m ≤ 5000) (h256 : ∀ i, i < bs.length → bs.getD i 0 < 256) (W : World) (oa : Option Addr) (h : BytesN W oa bs) :
    Calls Try.prog 27 #[.agg #[.int .i64 4096, .slice none 0 0, .int .i64 4096], .slice oa m m] W (BlkPost 4096 4096 [] bs W) :=
  hblock_any 4096 4096 none 0 0 [] rfl (Nat.le_refl _) (fun f hf => by cases hf) (by omega) oa m m bs hm (Nat.le_refl _) hm5 W (FieldsN.nil _ _) h h256
theorem small256 (bs : List Nat) (h : bs.all (fun b => decide (b < 256)) = true) : ∀ i, i < bs.length → bs.getD i 0 < 256 := fun i hi => by
  rw [List.all_eq_true] at h
  have := h bs[i] (List.getElem_mem hi)
  rw [List.getD_eq_getElem?_getD, List.getElem?_eq_getElem hi]
  simpa using this
theorem blk_1 (W : World) (oa : Option Addr) (h : BytesN W oa [130, 134, 132, 65, 1, 97]) : Calls Try.prog 27 #[.agg #[.int .i64 4096, .slice none 0 0, .int .i64 4096], .slice oa 6 6] W (Blk1 W) :=
  (blk_go 6 _ rfl (by omega) (small256 _ (by decide)) W oa h).mono (by
    rintro e w' ⟨ob, nb, cb, oc, nc, cc, rfl, h1, h2, h3, h4, h5, h6, hb⟩
    rw [blkN_1] at h1 h3 h4 h6
    rw [blkN_1]
    obtain rfl : 1 = nb := h1
    obtain rfl : 4 = nc := h4
    exact ⟨ob, cb, oc, cc, rfl, h2, h5, h3, h6, hb⟩)
theorem blk_e (bs : List Nat) (m : Nat) (er : Int) (hm : bs.length = m) (hm5 : m ≤ 5000) (h256 : bs.all (fun b => decide (b < 256)) = true) (hE : hBlk 4096 4096 [] bs = (4096, [], [], false, er)) (W : World) (oa : Option Addr) (h : BytesN W oa bs) : Calls Try.prog 27 #[.agg #[.int .i64 4096, .slice none 0 0, .int .i64 4096], .slice oa m m] W (BlkE er W) :=
  (blk_go m bs hm hm5 (small256 _ h256) W oa h).mono (by
    rintro e w' ⟨ob, nb, cb, oc, nc, cc, rfl, h1, h2, h3, h4, h5, h6, hb⟩
    rw [hE] at h1 h3 h4 h6
    rw [hE]
    obtain rfl : 0 = nb := h1
    obtain rfl : 0 = nc := h4
    exact ⟨ob, cb, oc, cc, rfl, hb⟩)
theorem stp_1 (W : World) (oa : Option Addr) (cap : Nat) (hc : 1 ≤ cap) (h : FieldsN W oa LAu) : Calls Try.prog 14 #[.agg #[.int .i64 4096, .slice oa 1 cap, .int .i64 4096], .agg #[.int .u8 0, .int .i64 62, .string ⟨#[]⟩, .string ⟨#[]⟩]] W
    fun e w' => ∃ ob cb, e = .returned (.tuple #[.agg #[.int .i64 4096, .slice ob 1 cb, .int .i64 4096], .agg #[.string ⟨#[58, 97, 117, 116, 104, 111, 114, 105, 116, 121]⟩, .string ⟨#[97]⟩, .bool false], .bool true, .int .i64 0]) ∧ FieldsN w' ob LAu ∧ Below W.heap.size W w' :=
  (hdecStep_any 4096 4096 oa 1 cap LAu rfl hc (fun f hf => by simp only [LAu, List.mem_singleton] at hf; subst hf; decide +kernel) (by omega) 0 (by omega) 62 ⟨#[]⟩ ⟨#[]⟩ (by decide +kernel) (by decide) (by decide) W h).mono (by
    rintro e w' ⟨ob, nb, cb, rfl, h1, h2, h3, hb⟩
    rw [stpN_1] at h1 h3
    rw [stpN_1]
    obtain rfl : 1 = nb := h1
    exact ⟨ob, cb, rfl, h3, hb⟩)
theorem bytes_row (W : World) (bs : List Nat) (fr : Nat × Nat) : BytesN (W.alloc (.cells (bs.map fun b : Nat => Value.int .u8 (b : Int)).toArray 5 fr)) (some ⟨W.heap.size, 0, none⟩) bs := by
  intro i hi
  refine ⟨_, rfl, ?_⟩
  have e : (⟨W.heap.size, 0, none⟩ : Addr).add i = ⟨W.heap.size, i, none⟩ := by unfold Addr.add; split <;> simp_all
  rw [e, cell_of_row _ _ _ _ _ _ (heap_alloc_new W _)]
  simp [hi]
/-- What is kept: the states' rows, and the fields. -/
structure Aw (w : World) (q1 q3 q19 q20 : Nat) (ob : Option Addr) (cb : Nat) (bc oc : Nat) (od : Option Addr) (cd : Nat) (W : World) : Prop where
  s1 : HRow W q1 4096 (.slice none 0 0) 4096
  s3 : HRow W q3 4096 (.slice ob 1 cb) 4096
  s19 : HRow W q19 4096 (.slice od 1 cd) 4096
  f20 : FRow W q20 fAu
  fb : FieldsN W ob LAu
  fc : FieldsN W (some ⟨bc, oc, none⟩) L4
  fd : FieldsN W od LAu
  below : Below w.heap.size w W
theorem Aw.step {w W W' : World} {q1 q3 q19 q20 cb bc oc cd : Nat} {ob od : Option Addr} (h : Aw w q1 q3 q19 q20 ob cb bc oc od cd W) (hb : Below W.heap.size W W') : Aw w q1 q3 q19 q20 ob cb bc oc od cd W' :=
  ⟨h.s1.step hb, h.s3.step hb, h.s19.step hb, h.f20.step hb, h.fb.below hb, h.fc.below hb, h.fd.below hb, bs_hd h.below hb⟩
theorem Aw.cells {w W : World} {q1 q3 q19 q20 cb bc oc cd : Nat} {ob od : Option Addr} (h : Aw w q1 q3 q19 q20 ob cb bc oc od cd W) :
    W.cell? ⟨bc, oc, none⟩ = some (.string ⟨#[58, 109, 101, 116, 104, 111, 100]⟩) ∧ W.cell? ⟨bc, oc + 1, none⟩ = some (.string ⟨#[71, 69, 84]⟩) ∧ W.cell? ⟨bc, oc + 2, none⟩ = some (.bool false) ∧
    W.cell? ⟨bc, oc + 9, none⟩ = some (.string ⟨#[58, 97, 117, 116, 104, 111, 114, 105, 116, 121]⟩) ∧ W.cell? ⟨bc, oc + 9 + 1, none⟩ = some (.string ⟨#[97]⟩) ∧ W.cell? ⟨bc, oc + 9 + 2, none⟩ = some (.bool false) ∧
    W.cell? ⟨q20, 0, none⟩ = some (.string ⟨#[58, 97, 117, 116, 104, 111, 114, 105, 116, 121]⟩) ∧ W.cell? ⟨q20, 1, none⟩ = some (.string ⟨#[97]⟩) ∧ W.cell? ⟨q20, 2, none⟩ = some (.bool false) := by
  obtain ⟨b, o, e, h0, h1, h2⟩ := h.fc 0 _ rfl
  obtain ⟨b', o', e', h3, h4, h5⟩ := h.fc 3 _ rfl
  injection e with e; injection e with e1 e2 _
  injection e' with e'; injection e' with e3 e4 _
  subst e1; subst e2; subst e3; subst e4
  have k := st_1
  dsimp only at h0 h1 h2 h3 h4 h5
  rw [k.1] at h0
  rw [k.2] at h1
  exact ⟨h0, h1, h2, h3, h4, h5, h.f20.c0, h.f20.c1, h.f20.c2⟩
theorem Aw.tail {w W : World} {q1 q3 q19 q20 cb bc oc cd : Nat} {ob od : Option Addr} (h : Aw w q1 q3 q19 q20 ob cb bc oc od cd W) : FieldsN W (some ⟨bc, oc + 9, none⟩) LAu := by
  intro i f hf
  have hi : i = 0 := by
    rcases i with _ | i
    · rfl
    · simp [LAu] at hf
  subst hi
  obtain rfl : fAu = f := by simpa [LAu] using hf
  obtain ⟨b', o', e', h3, h4, h5⟩ := h.fc 3 _ rfl
  injection e' with e'; injection e' with e3 e4 _
  subst e3; subst e4
  exact ⟨_, _, rfl, h3, h4, h5⟩
theorem aw_mk {w W W9 : World} {q1 q3 cb bc oc cd : Nat} {ob od : Option Addr} (hB : Below w.heap.size w W) (h1 : HRow W q1 4096 (.slice none 0 0) 4096) (h3 : HRow W q3 4096 (.slice ob 1 cb) 4096) (hfb : FieldsN W ob LAu) (hfc : FieldsN W (some ⟨bc, oc, none⟩) L4) (hfd : FieldsN W9 od LAu) (hb : Below W.heap.size W W9) :
    Aw w q1 q3 W9.heap.size (W9.heap.size + 1) ob cb bc oc od cd ((W9.alloc (.cells #[.int .i64 4096, .slice od 1 cd, .int .i64 4096] 45)).alloc (.cells #[.string ⟨#[58, 97, 117, 116, 104, 111, 114, 105, 116, 121]⟩, .string ⟨#[97]⟩, .bool false] 25)) := by
  have b2 : Below W9.heap.size W9 ((W9.alloc (.cells #[.int .i64 4096, .slice od 1 cd, .int .i64 4096] 45)).alloc (.cells #[.string ⟨#[58, 97, 117, 116, 104, 111, 114, 105, 116, 121]⟩, .string ⟨#[97]⟩, .bool false] 25)) := bs_hd (below_new _) (below_new _)
  have b3 := bs_hd hb b2
  exact ⟨h1.step b3, h3.step b3, two0 _ _ _, two1 _ _ _, hfb.below b3, hfc.below b3, hfd.below b2, bs_hd hB b3⟩
theorem siz_1 (W : World) (oa : Option Addr) (cap : Nat) (h : FieldsN W oa LAu) : Calls Try.prog 24 #[.slice oa 1 cap] W fun e w' => e = .returned (.int .i64 43) ∧ Below W.heap.size W w' :=
  (hsize_any oa 1 cap LAu rfl (fun f hf => by simp only [LAu, List.mem_singleton] at hf; subst hf; decide +kernel) (by omega) W h).mono (by rintro e w' ⟨rfl, hb⟩; exact ⟨rfl, hb⟩)
theorem chq_1 (W : World) (oa : Option Addr) (cap : Nat) (h : FieldsN W oa LAu) : Calls Try.prog 21 #[.agg #[.int .i64 4096, .slice oa 1 cap, .int .i64 4096]] W fun e w' => e = .returned (.int .i64 0) ∧ Below W.heap.size W w' :=
  (hcheck_any 4096 4096 oa 1 cap LAu rfl (fun f hf => by simp only [LAu, List.mem_singleton] at hf; subst hf; decide +kernel) (by omega) W h).mono (by rintro e w' ⟨rfl, hb⟩; exact ⟨by rw [chkH_1], hb⟩)
theorem sam_1 (W : World) (oa ob : Option Addr) (ca cb : Nat) (h : FieldsN W oa LAu) (h2 : FieldsN W ob LAu) : Calls Try.prog 23 #[.agg #[.int .i64 4096, .slice oa 1 ca, .int .i64 4096], .agg #[.int .i64 4096, .slice ob 1 cb, .int .i64 4096]] W fun e w' => e = .returned (.bool true) ∧ Below W.heap.size W w' :=
  (hsame_any 4096 4096 4096 4096 oa ob 1 1 ca cb LAu LAu rfl rfl (by omega) (by omega) W h h2).mono (by rintro e w' ⟨rfl, hb⟩; exact ⟨by rw [samN_1]; rfl, hb⟩)
theorem sam_2 (W : World) (oa : Option Addr) (ca : Nat) (h : FieldsN W oa LAu) : Calls Try.prog 23 #[.agg #[.int .i64 4096, .slice oa 1 ca, .int .i64 4096], .agg #[.int .i64 4096, .slice none 0 0, .int .i64 4096]] W fun e w' => e = .returned (.bool false) ∧ Below W.heap.size W w' :=
  (hsame_any 4096 4096 4096 4096 oa none 1 0 ca 0 LAu [] rfl rfl (by omega) (by omega) W h (FieldsN.nil _ _)).mono (by rintro e w' ⟨rfl, hb⟩; exact ⟨by rw [samN_2]; rfl, hb⟩)
set_option maxRecDepth 100000 in
set_option maxHeartbeats 8000000 in
theorem awake06_any (w : World) : Calls Try.prog 13 #[] w fun e w' => e = .returned (.bool true) ∧ Below w.heap.size w w' := by
  have HNW := Lib.hid (fun W => hnew_any 4096 W)
  unfold NewPost at HNW
  rw [newN_1.1, newN_1.2] at HNW
  go_enter Try.func13, Try.ntmps13
  go_upto_region 2 with (first | (go_at_call 17; refine (HNW.out _).mono ?_; rintro e w1 ⟨rfl, hb⟩; have HB := Lib.hid hb; clear hb))
  have HS1 := Lib.hid (HRow.new w1 4096 4096 (.slice none 0 0))
  replace HB := Lib.hid (bs_hd HB.out (below_new (W := w1) (.cells #[.int .i64 4096, .slice none 0 0, .int .i64 4096] 45)))
  generalize w1.alloc (.cells #[.int .i64 4096, .slice none 0 0, .int .i64 4096] 45) = w2 at HS1 HB ⊢
  generalize w1.heap.size = q1 at HS1 ⊢
  have x0 := HS1.out.c0
  have x1 := HS1.out.c1
  have x2 := HS1.out.c2
  have hcv := fun (W : World) (C : Array Value) (n c : Nat) => Lib.run_convert_bytes_const (P := Try.prog) W 23 5 C n c Try.underlying23 Try.underlying5
  have HBC := Lib.hid (fun (W : World) (bs : List Nat) (fr : Nat × Nat) => bytes_row W bs fr)
  go_upto_region 3 with (first | (go_at_call 27; refine (blk_1 _ _ (HBC.out w2 [130, 134, 132, 65, 1, 97] (6, 7))).mono ?_; rintro e w3 ⟨ob, cb, oc0, cc, rfl, hcb, hcc, hfb, hfc, hb⟩; have HB3 := Lib.hid (bs_hd (below_new _) hb); clear hb))
  obtain ⟨bc, oc, hoc, _⟩ := hfc 0 _ rfl
  subst hoc
  have HS3 := Lib.hid (HRow.new w3 4096 4096 (.slice ob 1 cb))
  have HFB := Lib.hid (hfb.below (below_new (W := w3) (.cells #[.int .i64 4096, .slice ob 1 cb, .int .i64 4096] 45)))
  have HFC := Lib.hid (hfc.below (below_new (W := w3) (.cells #[.int .i64 4096, .slice ob 1 cb, .int .i64 4096] 45)))
  replace HB3 := Lib.hid (bs_hd HB3.out (below_new (W := w3) (.cells #[.int .i64 4096, .slice ob 1 cb, .int .i64 4096] 45)))
  replace HB := Lib.hid (bs_hd HB.out HB3.out)
  replace HS1 := Lib.hid (HS1.out.step HB3.out)
  clear hfb hfc HB3 x0 x1 x2
  generalize w3.alloc (.cells #[.int .i64 4096, .slice ob 1 cb, .int .i64 4096] 45) = w4 at HS1 HS3 HFB HFC HB ⊢
  generalize w3.heap.size = q3 at HS3 ⊢
  have HCB := Lib.hid hcb
  have HCC := Lib.hid hcc
  clear hcb hcc
  have x0 := HS1.out.c0
  have x1 := HS1.out.c1
  have x2 := HS1.out.c2
  go_upto_region 4 with (first | (go_at_call 27; refine (blk_e [63, 225, 63] 3 8 rfl (by omega) (by decide) blkN_2 _ _ (HBC.out w4 [63, 225, 63] (3, 4))).mono ?_; rintro e w5 ⟨o5, c5, p5, d5, rfl, hb⟩; have HB5 := Lib.hid (bs_hd (bs_hd (below_new _) hb) (below_new (W := w5) (.cells #[.int .i64 4096, .slice o5 0 c5, .int .i64 4096] 45))); clear hb))
  replace HB := Lib.hid (bs_hd HB.out HB5.out)
  replace HS1 := Lib.hid (HS1.out.step HB5.out)
  replace HS3 := Lib.hid (HS3.out.step HB5.out)
  replace HFB := Lib.hid (HFB.out.below HB5.out)
  replace HFC := Lib.hid (HFC.out.below HB5.out)
  clear HB5 x0 x1 x2
  generalize w5.alloc (.cells #[.int .i64 4096, .slice o5 0 c5, .int .i64 4096] 45) = w6 at HS1 HS3 HFB HFC HB ⊢
  have x0 := HS1.out.c0
  have x1 := HS1.out.c1
  have x2 := HS1.out.c2
  go_upto_region 5 with (first | (go_at_call 27; refine (blk_e [130, 32] 2 10 rfl (by omega) (by decide) blkN_3 _ _ (HBC.out w6 [130, 32] (2, 3))).mono ?_; rintro e w5 ⟨o5, c5, p5, d5, rfl, hb⟩; have HB5 := Lib.hid (bs_hd (bs_hd (below_new _) hb) (below_new (W := w5) (.cells #[.int .i64 4096, .slice o5 0 c5, .int .i64 4096] 45))); clear hb))
  replace HB := Lib.hid (bs_hd HB.out HB5.out)
  replace HS1 := Lib.hid (HS1.out.step HB5.out)
  replace HS3 := Lib.hid (HS3.out.step HB5.out)
  replace HFB := Lib.hid (HFB.out.below HB5.out)
  replace HFC := Lib.hid (HFC.out.below HB5.out)
  clear HB5 x0 x1 x2
  generalize w5.alloc (.cells #[.int .i64 4096, .slice o5 0 c5, .int .i64 4096] 45) = w7 at HS1 HS3 HFB HFC HB ⊢
  have x0 := HS1.out.c0
  have x1 := HS1.out.c1
  have x2 := HS1.out.c2
  go_upto_region 6 with (first | (go_at_call 27; refine (blk_e [190] 1 6 rfl (by omega) (by decide) blkN_4 _ _ (HBC.out w7 [190] (1, 2))).mono ?_; rintro e w5 ⟨o5, c5, p5, d5, rfl, hb⟩; have HB5 := Lib.hid (bs_hd (bs_hd (below_new _) hb) (below_new (W := w5) (.cells #[.int .i64 4096, .slice o5 0 c5, .int .i64 4096] 45))); clear hb))
  replace HB := Lib.hid (bs_hd HB.out HB5.out)
  replace HS1 := Lib.hid (HS1.out.step HB5.out)
  replace HS3 := Lib.hid (HS3.out.step HB5.out)
  replace HFB := Lib.hid (HFB.out.below HB5.out)
  replace HFC := Lib.hid (HFC.out.below HB5.out)
  clear HB5 x0 x1 x2
  generalize w5.alloc (.cells #[.int .i64 4096, .slice o5 0 c5, .int .i64 4096] 45) = w8 at HS1 HS3 HFB HFC HB ⊢
  have b0 := HS3.out.c0
  have b1 := HS3.out.c1
  have b2 := HS3.out.c2
  go_upto_region 7 with (first
    | (go_at_call 14; refine (stp_1 _ _ _ HCB.out HFB.out).mono ?_; rintro e w9 ⟨od, cd, rfl, hfd, hb⟩; have HA := Lib.hid (show Aw w q1 q3 w9.heap.size (w9.heap.size + 1) ob cb bc oc od cd ((w9.alloc (.cells #[.int .i64 4096, .slice od 1 cd, .int .i64 4096] 45)).alloc (.cells #[.string ⟨#[58, 97, 117, 116, 104, 111, 114, 105, 116, 121]⟩, .string ⟨#[97]⟩, .bool false] 25)) from (aw_mk HB.out HS1.out HS3.out HFB.out HFC.out hfd hb)); clear hb hfd))
  clear b0 b1 b2 hcv HNW HBC HS1 HS3 HFB HFC HB HCB
  generalize ((w9.alloc (.cells #[.int .i64 4096, .slice od 1 cd, .int .i64 4096] 45)).alloc (.cells #[.string ⟨#[58, 97, 117, 116, 104, 111, 114, 105, 116, 121]⟩, .string ⟨#[97]⟩, .bool false] 25)) = w10 at HA ⊢
  generalize w9.heap.size = q9 at HA ⊢
  simp only [List.append]
  have c4 : (4 : Int) ≤ (cc : Int) := by have := HCC.out; omega
  have c3 : ¬ (cc = 3) := by have := HCC.out; omega
  have HDR := Lib.hid (show Aw w q1 q3 q9 (q9 + 1) ob cb bc oc od cd w10.drew from ⟨HA.out.s1, HA.out.s3, HA.out.s19, HA.out.f20, HA.out.fb, HA.out.fc, HA.out.fd, HA.out.below.drew⟩)
  refine class_region (C := Aw w q1 q3 q9 (q9 + 1) ob cb bc oc od cd) (by kernel_rfl) (by kernel_rfl) HDR.out ?_
  clear HA HDR
  repeat
    first
      | (with_reducible refine q_plainE rfl rfl ?_)
      | (with_reducible refine q_yesE 71 rfl (by kernel_rfl) (by kernel_rfl) rfl ?_)
    apply Exists.intro
    with_reducible refine ⟨?_, ?_⟩
    · intro W hW
      unfold QAt
      first
        | (go_simp; done)
        | (go_simp; with_reducible rfl)
        | (have HA := Lib.hid hW
           have a0 := HA.out.s1.c0
           have a1 := HA.out.s1.c1
           have a2 := HA.out.s1.c2
           have b0 := HA.out.s3.c0
           have b1 := HA.out.s3.c1
           have b2 := HA.out.s3.c2
           have d0 := HA.out.s19.c0
           have d1 := HA.out.s19.c1
           have d2 := HA.out.s19.c2
           obtain ⟨l0, l1, l2, l3, l4, l5, f0, f1, f2⟩ := HA.out.cells
           first | (go_simp; done) | go_simp
           first
             | done
             | (with_reducible rfl)
             | (go_at_call 23; with_reducible refine (sam_1 _ _ _ _ _ HA.out.fb HA.out.fd).mono ?_; rintro e w11 ⟨rfl, hb⟩; exact ⟨rfl, hW.step hb⟩)
             | (go_at_call 23; with_reducible refine (sam_2 _ _ _ HA.out.fb).mono ?_; rintro e w11 ⟨rfl, hb⟩; exact ⟨rfl, hW.step hb⟩)
             | (go_at_call 24; refine (siz_1 _ _ _ HA.out.tail).mono ?_; rintro e w11 ⟨rfl, hb⟩; exact ⟨rfl, hW.step hb⟩)
             | (go_at_call 21; refine (chq_1 _ _ _ HA.out.fb).mono ?_; rintro e w11 ⟨rfl, hb⟩; exact ⟨rfl, hW.step hb⟩))
    apply Exists.intro
    with_reducible refine ⟨?_, ?_⟩
    · simp only [Act.put, List.setIfInBounds_toArray, List.set_cons_zero, List.set_cons_succ]
      exact isAct_rfl _
  with_reducible refine qrest_nil ?_
  intro w' hw'
  go_wp2_with fail
  go_ret
  exact ⟨rfl, hw'.below⟩
end Go.Proofs.Yteceinojmdgmeaa

