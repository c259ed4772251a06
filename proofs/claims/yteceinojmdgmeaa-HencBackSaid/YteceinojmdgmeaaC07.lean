/- HuffY · HuffZ: joined by a program, for a claim has at most 60 files. -/
import Derived.Test.YteceinojmdgmeaaC06
import Derived.Tactics
import Derived.Tactics2
import Derived.Defers
import Derived.Laws.Pointers
import Derived.Laws.LoneSync
import Derived.RegionTactic
import Derived.RegionCalls
/- A coder's tree is built once: what sync.Once does, not yet done and the lock free, and done already. -/
namespace Go.Proofs.Yteceinojmdgmeaa
open Go.RowKit
set_option linter.unusedVariables false
set_option linter.unusedSimpArgs false

theorem disable (w : World) : (callFunc 109 #[]).run Try.prog w = .ok (.value (.tuple #[])) w := run_call_mark0 Try.func109 (by kernel_rfl) (by kernel_rfl) (by kernel_rfl) .disable (by kernel_rfl) w
theorem enable (w : World) : (callFunc 111 #[]).run Try.prog w = .ok (.value (.tuple #[])) w := run_call_mark0 Try.func111 (by kernel_rfl) (by kernel_rfl) (by kernel_rfl) .enable (by kernel_rfl) w
theorem acquire (a : Addr) (w : World) : (callFunc 112 #[.pointer (some a)]).run Try.prog w = .ok (.value (.tuple #[])) w := run_call_marked Try.func112 (by kernel_rfl) (by kernel_rfl) (by kernel_rfl) .acquire (by kernel_rfl) a w
theorem releaseMerge (a : Addr) (w : World) : (callFunc 114 #[.pointer (some a)]).run Try.prog w = .ok (.value (.tuple #[])) w := run_call_marked Try.func114 (by kernel_rfl) (by kernel_rfl) (by kernel_rfl) .releaseMerge (by kernel_rfl) a w

/-- '(*sync/atomic.Bool).Store(true)', entered as a deferred call: the cell holds 1. -/
theorem store_deferred (a : Addr) (x : Value) (u : FrameMode) (w : World) (hc : w.cell? a = some x) (hz : w.frozen? a = false) :
    CallsD Try.prog 104 #[.pointer (some a), .bool true] u w fun e u' w' => u' = u ∧ (e = .returned (.tuple #[]) ∧ w' = w.drew.setCell a (.int .u32 1)) := by
  have hc' : w.drew.cell? a = some x := by go_simp
  have hz' : w.drew.frozen? a = false := by go_simp
  have hst := run_call_store (P := Try.prog) Try.func107 (by kernel_rfl) (by kernel_rfl) (by kernel_rfl) (by kernel_rfl) (k := .u32) (y := 1) hc' hz'
  go_enter_d Try.func104, Try.ntmps104
  go_wp2
  go_region_calls
  all_goals (go_end0; exact ⟨rfl, rfl⟩)

set_option maxRecDepth 100000 in
/-- '(*sync.Mutex).Unlock', entered as a deferred call, the lock held and nobody waiting. -/
theorem unlock_deferred (a : Addr) (u : FrameMode) (w : World) (hc : w.cell? a = some (.int .i32 1)) (hz : w.frozen? a = false) :
    CallsD Try.prog 103 #[.pointer (some a)] u w fun e u' w' => u' = u ∧ (e = .returned (.tuple #[]) ∧ w' = w.setCell a (.int .i32 0)) := by
  have hd := disable
  have he := enable
  have hr := releaseMerge
  have hadd := run_call_add (P := Try.prog) Try.func115 (by kernel_rfl) (by kernel_rfl) (by kernel_rfl) .i32 (by kernel_rfl) (y := -1) (s := 0) hc hz (by simp [go_sem]; rfl)
  have hcv := run_convert_to_unsafe (P := Try.prog) (src := 182) (dst := 186) Try.underlying182 Try.underlying186 (by kernel_rfl) hc
  go_enter_d Try.func103, Try.ntmps103
  go_wp2
  go_end0
  go_wp2
  go_end0
  exact ⟨rfl, rfl⟩

set_option maxRecDepth 100000 in
/-- '(*sync.Mutex).Lock', the lock free. -/
theorem lock_free (a : Addr) (w : World) (hc : w.cell? a = some (.int .i32 0)) (hz : w.frozen? a = false) :
    Calls Try.prog 102 #[.pointer (some a)] w fun e w' => e = .returned (.tuple #[]) ∧ w' = w.setCell a (.int .i32 1) := by
  have hd := disable
  have he := enable
  have ha := acquire
  have hcas := run_call_cas_hit (P := Try.prog) Try.func110 (by kernel_rfl) (by kernel_rfl) (by kernel_rfl) .i32 (by kernel_rfl) (y := 1) hc hz
  have hc' : (w.setCell a (.int .i32 1)).cell? a = some (.int .i32 1) := World.cell?_setCell_same w a _ hc
  have hcv := run_convert_to_unsafe (P := Try.prog) (src := 182) (dst := 186) Try.underlying182 Try.underlying186 (by kernel_rfl) hc'
  go_enter Try.func102, Try.ntmps102
  go_wp2
  first | go_end0 | (simp only [Exit.inBlock, Exit.then]; refine bodyPost_ret (results_none rfl _ _ _) rfl ?_) | refine bodyPost_ret (results_none rfl _ _ _) rfl ?_
  go_wp2
  go_end0
  exact ⟨rfl, rfl⟩

/-- '(*sync/atomic.Bool).Load'. -/
theorem bool_load (a : Addr) (x : Int) (b : Bool) (hb : (x != 0) = b) (w : World) (hc : w.cell? a = some (.int .u32 x)) :
    Calls Try.prog 98 #[.pointer (some a)] w fun e w' => e = .returned (.bool b) ∧ w' = w := by
  have hl := run_call_load (P := Try.prog) Try.func101 (by kernel_rfl) (by kernel_rfl) (by kernel_rfl) .u32 (by kernel_rfl) hc
  go_enter Try.func98, Try.ntmps98
  go_wp2
  go_ret
  exact ⟨rfl, rfl⟩

theorem CRow.set0 {p : Nat} {W : World} {d m : Int} {tv : Value} {bt : Int} (h : CRow p W d m tv bt) (d' : Int) : CRow p (W.setCell ⟨p, 0, none⟩ (.int .u32 d')) d' m tv bt := heap_setCell_same W p 0 _ _ _ h
theorem CRow.set1 {p : Nat} {W : World} {d m : Int} {tv : Value} {bt : Int} (h : CRow p W d m tv bt) (m' : Int) : CRow p (W.setCell ⟨p, 1, none⟩ (.int .i32 m')) d m' tv bt := heap_setCell_same W p 1 _ _ _ h

/-- The tree stands, made once more. -/
def OncePost (p : Nat) (bt : Int) (w : World) (e : Ending) (w' : World) : Prop :=
  e = .returned (.tuple #[]) ∧ ∃ tv, CRow p w' 1 0 tv (bt + 1) ∧ TreeV w' w.heap.size tv treeL ∧ Near p w.heap.size w w'

set_option maxRecDepth 100000 in
set_option maxHeartbeats 1600000 in
theorem slow_any (p : Nat) (bt : Int) (hbt : 0 ≤ bt ∧ bt < 1000) (tv : Value) (w : World) (hrow : CRow p w 0 0 tv bt) :
    Calls Try.prog 99 #[.pointer (some ⟨p, 0, none⟩), .func (.func 97) #[.pointer (some ⟨p, 0, none⟩)] #[]] w (OncePost p bt w) := by
  have hR1 := hrow.set1 1
  have hN1 : Near p w.heap.size w (w.setCell ⟨p, 1, none⟩ (.int .i32 1)) := (Near.refl p _ w).setCell (q := ⟨p, 1, none⟩) (.inl rfl) _
  have HL := Lib.hid (bool_load ⟨p, 0, none⟩ 0 false rfl (w.setCell ⟨p, 1, none⟩ (.int .i32 1)) hR1.cell.1)
  have hnot : ∀ (x : Bool) (w : World), (Op.unary .not (.bool x)).run Try.prog w = .ok (.bool (!x)) w := fun _ _ => rfl
  have HK := Lib.hid (lock_free ⟨p, 1, none⟩ w hrow.cell.2.1 (hrow.frozen 1))
  have HR := Lib.hid hR1
  have HN := Lib.hid hN1
  clear hR1 hN1 hrow
  go_enter_defers Try.func99, Try.ntmps99
  go_wp2_with (first
    | (go_at_call 102; refine HK.out.mono ?_; rintro e w' ⟨rfl, rfl⟩; generalize hW1 : w.setCell ⟨p, 1, none⟩ (.int .i32 1) = W1 at HL HR HN ⊢)
    | (go_at_call 98; refine HL.out.mono ?_; rintro e w' ⟨rfl, hw⟩; obtain rfl := hw.symm; clear HL)
    | (go_at_call 97; refine (build_any p 0 1 bt hbt tv _ HR.out).mono ?_; rintro e w' ⟨rfl, tv2, hR2, hT2, hN2⟩))
  have hp := hR2.lt
  have hRd : CRow p w'.drew 0 1 tv2 (bt + 1) := hR2.step rfl
  have hR3 := hRd.set0 1
  have hR4 := hR3.set1 0
  have hpW : p < W1.heap.size := by have := HR.out.lt; exact this
  have hN4 : Near p w.heap.size w ((w'.drew.setCell ⟨p, 0, none⟩ (.int .u32 1)).setCell ⟨p, 1, none⟩ (.int .i32 0)) :=
    (((HN.out.trans (hN2.mono HN.out.size)).drew).setCell (q := ⟨p, 0, none⟩) (.inl rfl) _).setCell (q := ⟨p, 1, none⟩) (.inl rfl) _
  have hT4 : TreeV ((w'.drew.setCell ⟨p, 0, none⟩ (.int .u32 1)).setCell ⟨p, 1, none⟩ (.int .i32 0)) w.heap.size tv2 treeL :=
    World.ownsRow.mono (hT2.step (fun k hk _ => (Below.heap_setCell _ _ _ _ (fun e => by simp only at e; omega)).trans (Below.heap_setCell _ _ _ _ (fun e => by simp only at e; omega)))) HN.out.size
  refine leaves_cons (f := 104) (args := #[.pointer (some ⟨p, 0, none⟩), .bool true]) (by simp) (by simp [go_sem]) ?_
  refine (store_deferred ⟨p, 0, none⟩ (.int .u32 0) .returning _ hR2.cell.1 (hR2.frozen 0)).mono ?_
  rintro e u' w'' ⟨rfl, rfl, rfl⟩
  refine leaves_cons (f := 103) (args := #[.pointer (some ⟨p, 1, none⟩)]) (by simp [settle]) (by simp [go_sem]) ?_
  refine (unlock_deferred ⟨p, 1, none⟩ _ _ hR3.cell.2.1 (hR3.frozen 1)).mono ?_
  rintro e u' w'' ⟨rfl, rfl, rfl⟩
  simp only [Leaves, settle, results, Try.results99]
  refine ⟨.tuple #[], ?_, rfl, tv2, hR4, hT4, hN4⟩
  first | rfl | (simp; done)

set_option maxRecDepth 100000 in
set_option maxHeartbeats 1600000 in
/-- '(*sync.Once).Do', not yet done, the lock free. -/
theorem do_first (p : Nat) (bt : Int) (hbt : 0 ≤ bt ∧ bt < 1000) (tv : Value) (w : World) (hrow : CRow p w 0 0 tv bt) :
    Calls Try.prog 96 #[.pointer (some ⟨p, 0, none⟩), .func (.func 97) #[.pointer (some ⟨p, 0, none⟩)] #[]] w (OncePost p bt w) := by
  have HL := Lib.hid (bool_load ⟨p, 0, none⟩ 0 false rfl w hrow.cell.1)
  have HR := Lib.hid hrow
  have hnot : ∀ (x : Bool) (w : World), (Op.unary .not (.bool x)).run Try.prog w = .ok (.bool (!x)) w := fun _ _ => rfl
  clear hrow
  go_enter Try.func96, Try.ntmps96
  go_wp2_with (first
    | (go_at_call 98; refine HL.out.mono ?_; rintro e w' ⟨rfl, hw⟩; obtain rfl := hw.symm; clear HL)
    | (go_at_call 99; refine (slow_any p bt hbt tv _ HR.out).mono ?_; rintro e w' ⟨rfl, tv2, hR2, hT2, hN2⟩))
  go_end0
  exact ⟨rfl, tv2, hR2, hT2, hN2⟩

/-- '(*sync.Once).Do', done already: the function is not called. -/
theorem do_done (p : Nat) (bt : Int) (tv fv : Value) (w : World) (hrow : CRow p w 1 0 tv bt) :
    Calls Try.prog 96 #[.pointer (some ⟨p, 0, none⟩), fv] w fun e w' => e = .returned (.tuple #[]) ∧ w' = w := by
  have HL := Lib.hid (bool_load ⟨p, 0, none⟩ 1 true rfl w hrow.cell.1)
  have hnot : ∀ (x : Bool) (w : World), (Op.unary .not (.bool x)).run Try.prog w = .ok (.bool (!x)) w := fun _ _ => rfl
  clear hrow
  go_enter Try.func96, Try.ntmps96
  go_wp2_with (go_at_call 98; refine HL.out.mono ?_; rintro e w' ⟨rfl, hw⟩; obtain rfl := hw.symm; clear HL)
  go_end0
  exact ⟨rfl, rfl⟩
end Go.Proofs.Yteceinojmdgmeaa


/- Reading bits by the tree, in plain words; what New and Built do; the Once in one word for both states of a coder. -/
namespace Go.Proofs.Yteceinojmdgmeaa
open Go.RowKit
set_option linter.unusedVariables false
set_option linter.unusedSimpArgs false

/-- Place, bits since the last byte, whether they are ones, what is read. -/
abbrev DSt := Nat × Nat × Bool × List UInt8
def dStep (s : DSt) (b : Nat) : Option DSt :=
  if treeL.getD (s.1 * 2 + b) 0 = 0 then none
  else if treeL.getD (s.1 * 2 + b) 0 < 0 then some (0, 0, true, s.2.2.2 ++ [UInt8.ofNat (-1 - treeL.getD (s.1 * 2 + b) 0).toNat])
  else some ((treeL.getD (s.1 * 2 + b) 0).toNat, s.2.1 + 1, s.2.2.1 && (b == 1), s.2.2.2)
def dRun (s : DSt) : List Nat → Option DSt
  | [] => some s
  | b :: l => (dStep s b).bind fun t => dRun t l
theorem dRun_append (l r : List Nat) (s : DSt) : dRun s (l ++ r) = (dRun s l).bind fun t => dRun t r := by
  induction l generalizing s with
  | nil => rfl
  | cons b l ih =>
    simp only [List.cons_append, dRun]
    cases dStep s b with
    | none => rfl
    | some t => exact ih t
theorem dRun_snoc (l : List Nat) (b : Nat) (s t : DSt) (h : dRun s l = some t) : dRun s (l ++ [b]) = dStep t b := by
  rw [dRun_append, h]
  simp only [Option.bind_some, dRun]
  cases dStep t b <;> rfl
def bytesBits (bs : List Nat) : List Nat := bs.flatMap (bitsN 8)
def d0 : DSt := (0, 0, true, [])
def decL (bs : List Nat) : Option (List UInt8) :=
  match dRun d0 (bytesBits bs) with
  | none => none
  | some (_, o, f, out) => if 8 ≤ o ∨ f = false then none else some out
def inRange (t : List Int) : Bool := t.all fun x => decide (-256 ≤ x) && decide (x < 256)
set_option maxRecDepth 100000 in
theorem treeL_range : inRange treeL = true := by decide +kernel
set_option maxRecDepth 100000 in
theorem treeL_len : treeL.length = 512 := by decide +kernel
theorem tree_in (j : Nat) : -256 ≤ treeL.getD j 0 ∧ treeL.getD j 0 < 256 := by
  by_cases h : j < treeL.length
  · have := List.all_eq_true.1 treeL_range treeL[j] (List.getElem_mem h)
    simp only [Bool.and_eq_true, decide_eq_true_eq] at this
    simpa [List.getD_eq_getElem?_getD, List.getElem?_eq_getElem h] using this
  · simp [List.getD_eq_getElem?_getD, List.getElem?_eq_none (Nat.le_of_not_lt h)]
/-- What holds of what is reached. -/
theorem dStep_in {s t : DSt} {b n : Nat} (h : dStep s b = some t) (h1 : s.2.1 ≤ n) (h2 : s.2.2.2.length ≤ n) : t.1 < 256 ∧ t.2.1 ≤ n + 1 ∧ t.2.2.2.length ≤ n + 1 := by
  unfold dStep at h
  have hr := tree_in (s.1 * 2 + b)
  generalize treeL.getD (s.1 * 2 + b) 0 = x at h hr
  split at h
  · cases h
  · split at h
    · obtain rfl := Option.some.inj h
      exact ⟨by simp, by simp, by simp; omega⟩
    · obtain rfl := Option.some.inj h
      exact ⟨by simp only; omega, by simp only; omega, by simp only; omega⟩
theorem dRun_in (l : List Nat) : ∀ (s t : DSt) (n : Nat), dRun s l = some t → s.1 < 256 → s.2.1 ≤ n → s.2.2.2.length ≤ n → t.1 < 256 ∧ t.2.1 ≤ n + l.length ∧ t.2.2.2.length ≤ n + l.length := by
  induction l with
  | nil => intro s t n h h0 h1 h2; obtain rfl := Option.some.inj h; exact ⟨h0, h1, h2⟩
  | cons b l ih =>
    intro s t n h h0 h1 h2
    simp only [dRun] at h
    cases hs : dStep s b with
    | none => rw [hs] at h; cases h
    | some u =>
      rw [hs] at h
      obtain ⟨u0, u1, u2⟩ := dStep_in hs h1 h2
      have := ih u t (n + 1) h u0 u1 u2
      simp only [List.length_cons]
      omega
theorem dRun_d0 {l : List Nat} {t : DSt} (h : dRun d0 l = some t) : t.1 < 256 ∧ t.2.1 ≤ l.length ∧ t.2.2.2.length ≤ l.length := by
  have := dRun_in l d0 t 0 h (by decide) (by decide) (by decide)
  omega
theorem bytesBits_append (a b : List Nat) : bytesBits (a ++ b) = bytesBits a ++ bytesBits b := by simp [bytesBits]
theorem bytesBits_take (bs : List Nat) (k : Nat) (h : k < bs.length) : bytesBits (bs.take (k + 1)) = bytesBits (bs.take k) ++ bitsN 8 (bs.getD k 0) := by
  rw [List.take_succ_eq_append_getElem h, bytesBits_append]
  simp [bytesBits, List.getD_eq_getElem?_getD, List.getElem?_eq_getElem h]
theorem bytesBits_len (bs : List Nat) : (bytesBits bs).length = 8 * bs.length := by
  induction bs with
  | nil => rfl
  | cons b l ih =>
    have : bytesBits (b :: l) = bitsN 8 b ++ bytesBits l := by simp [bytesBits]
    rw [this, List.length_append, bitsN_len, ih, List.length_cons]; omega
/-- A stop on the way is a stop of the whole. -/
theorem decL_stop (bs : List Nat) (k j : Nat) (hk : k < bs.length) (hj : j ≤ 8) (h : dRun d0 (bytesBits (bs.take k) ++ (bitsN 8 (bs.getD k 0)).take j) = none) : decL bs = none := by
  have e : bytesBits bs = (bytesBits (bs.take k) ++ (bitsN 8 (bs.getD k 0)).take j) ++ ((bitsN 8 (bs.getD k 0)).drop j ++ bytesBits (bs.drop (k + 1))) := by
    rw [← List.append_assoc, List.append_assoc (bytesBits (bs.take k)), List.take_append_drop, ← bytesBits_take bs k hk, ← bytesBits_append, List.take_append_drop]
  unfold decL
  rw [e, dRun_append, h]
  rfl

/-- A coder whose tree stands. -/
def Done (p : Nat) (W : World) (bt : Int) : Prop := ∃ tv B, p < B ∧ CRow p W 1 0 tv bt ∧ TreeV W B tv treeL
/-- A coder that is new, or whose tree stands. -/
def Ready (p : Nat) (W : World) : Prop := (∃ tv, CRow p W 0 0 tv 0) ∨ Done p W 1
theorem Done.below {p : Nat} {W W' : World} {bt : Int} (h : Done p W bt) (hb : Below W.heap.size W W') : Done p W' bt := by
  obtain ⟨tv, B, h1, h2, h3⟩ := h
  exact ⟨tv, B, h1, h2.step (hb.block p h2.lt), h3.step (fun k _ hk => hb.block k hk)⟩
theorem Done.lt {p : Nat} {W : World} {bt : Int} (h : Done p W bt) : p < W.heap.size := by
  obtain ⟨tv, B, h1, h2, h3⟩ := h
  exact h2.lt
theorem Ready.lt {p : Nat} {W : World} (h : Ready p W) : p < W.heap.size := h.elim (fun ⟨_, h⟩ => h.lt) Done.lt
theorem Ready.below {p : Nat} {W W' : World} (h : Ready p W) (hb : Below W.heap.size W W') : Ready p W' :=
  h.imp (fun ⟨tv, h⟩ => ⟨tv, h.step (hb.block p h.lt)⟩) (fun h => h.below hb)
theorem do_any (p : Nat) (w : World) (h : Ready p w) :
    Calls Try.prog 96 #[.pointer (some ⟨p, 0, none⟩), .func (.func 97) #[.pointer (some ⟨p, 0, none⟩)] #[]] w fun e w' => e = .returned (.tuple #[]) ∧ Done p w' 1 ∧ Near p w.heap.size w w' := by
  have hlt := h.lt
  rcases h with ⟨tv, h⟩ | ⟨tv, B, h1, h2, h3⟩
  · refine (do_first p 0 (by decide) tv w h).mono ?_
    rintro e w' ⟨rfl, tv2, hR, hT, hN⟩
    exact ⟨rfl, ⟨tv2, w.heap.size, hlt, hR, hT⟩, hN⟩
  · refine (do_done p 1 tv _ w h2).mono ?_
    rintro e w' ⟨rfl, rfl⟩
    exact ⟨rfl, ⟨tv, B, h1, h2, h3⟩, Near.refl _ _ _⟩

/-- New: a coder of its own. -/
theorem new_any (w : World) : Calls Try.prog 93 #[] w fun e w' => e = .returned (.pointer (some ⟨w.heap.size, 0, none⟩)) ∧ Below w.heap.size w w' ∧ CRow w.heap.size w' 0 0 (.slice none 0 0) 0 := by
  go_enter Try.func93, Try.ntmps93
  go_wp2_with fail
  go_ret
  exact ⟨rfl, (Below.refl _ _).alloc (Nat.le_refl _) _, heap_alloc_new w _⟩
end Go.Proofs.Yteceinojmdgmeaa

