/- A coder's tree is built once: what sync.Once does, not yet done and the lock free, and done already. -/
import Derived.Test.YtmnaljnkgaebkaaHuffX
import Derived.Tactics
import Derived.Tactics2
import Derived.Defers
import Derived.Laws.Pointers
import Derived.Laws.LoneSync
import Derived.RegionTactic
import Derived.RegionCalls
namespace Go.Proofs.Ytmnaljnkgaebkaa
open Go.RowKit
set_option linter.unusedVariables false
set_option linter.unusedSimpArgs false

theorem disable (w : World) : (callFunc 111 #[]).run Try.prog w = .ok (.value (.tuple #[])) w := run_call_mark0 Try.func111 (by kernel_rfl) (by kernel_rfl) (by kernel_rfl) .disable (by kernel_rfl) w
theorem enable (w : World) : (callFunc 113 #[]).run Try.prog w = .ok (.value (.tuple #[])) w := run_call_mark0 Try.func113 (by kernel_rfl) (by kernel_rfl) (by kernel_rfl) .enable (by kernel_rfl) w
theorem acquire (a : Addr) (w : World) : (callFunc 114 #[.pointer (some a)]).run Try.prog w = .ok (.value (.tuple #[])) w := run_call_marked Try.func114 (by kernel_rfl) (by kernel_rfl) (by kernel_rfl) .acquire (by kernel_rfl) a w
theorem releaseMerge (a : Addr) (w : World) : (callFunc 116 #[.pointer (some a)]).run Try.prog w = .ok (.value (.tuple #[])) w := run_call_marked Try.func116 (by kernel_rfl) (by kernel_rfl) (by kernel_rfl) .releaseMerge (by kernel_rfl) a w

/-- '(*sync/atomic.Bool).Store(true)', entered as a deferred call: the cell holds 1. -/
theorem store_deferred (a : Addr) (x : Value) (u : FrameMode) (w : World) (hc : w.cell? a = some x) (hz : w.frozen? a = false) :
    CallsD Try.prog 104 #[.pointer (some a), .bool true] u w fun e u' w' => u' = u ∧ (e = .returned (.tuple #[]) ∧ w' = w.drew.setCell a (.int .u32 1)) := by
  have hc' : w.drew.cell? a = some x := by go_simp
  have hz' : w.drew.frozen? a = false := by go_simp
  have hst := run_call_store (P := Try.prog) Try.func108 (by kernel_rfl) (by kernel_rfl) (by kernel_rfl) (by kernel_rfl) (k := .u32) (y := 1) hc' hz'
  go_enter_d Try.func104, Try.ntmps104
  go_wp2
  go_region_calls
  all_goals (go_end0; exact ⟨rfl, rfl⟩)

set_option maxRecDepth 100000 in
/-- '(*sync.Mutex).Unlock', entered as a deferred call, the lock held and nobody waiting. -/
theorem unlock_deferred (a : Addr) (u : FrameMode) (w : World) (hc : w.cell? a = some (.int .i32 1)) (hz : w.frozen? a = false) :
    CallsD Try.prog 103 #[.pointer (some a)] u w fun e u' w' => u' = u ∧ (e = .returned (.tuple #[]) ∧ w' = w.setCell a (.int .i32 0)) := by
  have hd := disable
  have he := enable
  have hr := releaseMerge
  have hadd := run_call_add (P := Try.prog) Try.func117 (by kernel_rfl) (by kernel_rfl) (by kernel_rfl) .i32 (by kernel_rfl) (y := -1) (s := 0) hc hz (by simp [go_sem]; rfl)
  have hcv := run_convert_to_unsafe (P := Try.prog) (src := 168) (dst := 172) Try.underlying168 Try.underlying172 (by kernel_rfl) hc
  go_enter_d Try.func103, Try.ntmps103
  go_wp2
  go_end0
  go_wp2
  go_end0
  exact ⟨rfl, rfl⟩

set_option maxRecDepth 100000 in
/-- '(*sync.Mutex).Lock', the lock free. -/
theorem lock_free (a : Addr) (w : World) (hc : w.cell? a = some (.int .i32 0)) (hz : w.frozen? a = false) :
    Calls Try.prog 102 #[.pointer (some a)] w fun e w' => e = .returned (.tuple #[]) ∧ w' = w.setCell a (.int .i32 1) := by
  have hd := disable
  have he := enable
  have ha := acquire
  have hcas := run_call_cas_hit (P := Try.prog) Try.func112 (by kernel_rfl) (by kernel_rfl) (by kernel_rfl) .i32 (by kernel_rfl) (y := 1) hc hz
  have hc' : (w.setCell a (.int .i32 1)).cell? a = some (.int .i32 1) := World.cell?_setCell_same w a _ hc
  have hcv := run_convert_to_unsafe (P := Try.prog) (src := 168) (dst := 172) Try.underlying168 Try.underlying172 (by kernel_rfl) hc'
  go_enter Try.func102, Try.ntmps102
  go_wp2
  first | go_end0 | (simp only [Exit.inBlock, Exit.then]; refine bodyPost_ret (results_none rfl _ _ _) rfl ?_) | refine bodyPost_ret (results_none rfl _ _ _) rfl ?_
  go_wp2
  go_end0
  exact ⟨rfl, rfl⟩

/-- '(*sync/atomic.Bool).Load'. -/
theorem bool_load (a : Addr) (x : Int) (b : Bool) (hb : (x != 0) = b) (w : World) (hc : w.cell? a = some (.int .u32 x)) :
    Calls Try.prog 87 #[.pointer (some a)] w fun e w' => e = .returned (.bool b) ∧ w' = w := by
  have hl := run_call_load (P := Try.prog) Try.func101 (by kernel_rfl) (by kernel_rfl) (by kernel_rfl) .u32 (by kernel_rfl) hc
  go_enter Try.func87, Try.ntmps87
  go_wp2
  go_ret
  exact ⟨rfl, rfl⟩

theorem CRow.set0 {p : Nat} {W : World} {d m : Int} {tv : Value} {bt : Int} (h : CRow p W d m tv bt) (d' : Int) : CRow p (W.setCell ⟨p, 0, none⟩ (.int .u32 d')) d' m tv bt := heap_setCell_same W p 0 _ _ _ h
theorem CRow.set1 {p : Nat} {W : World} {d m : Int} {tv : Value} {bt : Int} (h : CRow p W d m tv bt) (m' : Int) : CRow p (W.setCell ⟨p, 1, none⟩ (.int .i32 m')) d m' tv bt := heap_setCell_same W p 1 _ _ _ h

/-- The tree stands, made once more. -/
def OncePost (p : Nat) (bt : Int) (w : World) (e : Ending) (w' : World) : Prop :=
  e = .returned (.tuple #[]) ∧ ∃ tv, CRow p w' 1 0 tv (bt + 1) ∧ TreeV w' w.heap.size tv treeL ∧ Near p w.heap.size w w'

set_option maxRecDepth 100000 in
set_option maxHeartbeats 1600000 in
theorem slow_any (p : Nat) (bt : Int) (hbt : 0 ≤ bt ∧ bt < 1000) (tv : Value) (w : World) (hrow : CRow p w 0 0 tv bt) :
    Calls Try.prog 88 #[.pointer (some ⟨p, 0, none⟩), .func (.func 60) #[.pointer (some ⟨p, 0, none⟩)] #[]] w (OncePost p bt w) := by
  have hR1 := hrow.set1 1
  have hN1 : Near p w.heap.size w (w.setCell ⟨p, 1, none⟩ (.int .i32 1)) := (Near.refl p _ w).setCell (q := ⟨p, 1, none⟩) (.inl rfl) _
  have HL := Lib.hid (bool_load ⟨p, 0, none⟩ 0 false rfl (w.setCell ⟨p, 1, none⟩ (.int .i32 1)) hR1.cell.1)
  have hnot : ∀ (x : Bool) (w : World), (Op.unary .not (.bool x)).run Try.prog w = .ok (.bool (!x)) w := fun _ _ => rfl
  have HK := Lib.hid (lock_free ⟨p, 1, none⟩ w hrow.cell.2.1 (hrow.frozen 1))
  have HR := Lib.hid hR1
  have HN := Lib.hid hN1
  clear hR1 hN1 hrow
  go_enter_defers Try.func88, Try.ntmps88
  go_wp2_with (first
    | (go_at_call 102; refine HK.out.mono ?_; rintro e w' ⟨rfl, rfl⟩; generalize hW1 : w.setCell ⟨p, 1, none⟩ (.int .i32 1) = W1 at HL HR HN ⊢)
    | (go_at_call 87; refine HL.out.mono ?_; rintro e w' ⟨rfl, hw⟩; obtain rfl := hw.symm; clear HL)
    | (go_at_call 60; refine (build_any p 0 1 bt hbt tv _ HR.out).mono ?_; rintro e w' ⟨rfl, tv2, hR2, hT2, hN2⟩))
  have hp := hR2.lt
  have hRd : CRow p w'.drew 0 1 tv2 (bt + 1) := hR2.step rfl
  have hR3 := hRd.set0 1
  have hR4 := hR3.set1 0
  have hpW : p < W1.heap.size := by have := HR.out.lt; exact this
  have hN4 : Near p w.heap.size w ((w'.drew.setCell ⟨p, 0, none⟩ (.int .u32 1)).setCell ⟨p, 1, none⟩ (.int .i32 0)) :=
    (((HN.out.trans (hN2.mono HN.out.size)).drew).setCell (q := ⟨p, 0, none⟩) (.inl rfl) _).setCell (q := ⟨p, 1, none⟩) (.inl rfl) _
  have hT4 : TreeV ((w'.drew.setCell ⟨p, 0, none⟩ (.int .u32 1)).setCell ⟨p, 1, none⟩ (.int .i32 0)) w.heap.size tv2 treeL :=
    World.ownsRow.mono (hT2.step (fun k hk _ => (Below.heap_setCell _ _ _ _ (fun e => by simp only at e; omega)).trans (Below.heap_setCell _ _ _ _ (fun e => by simp only at e; omega)))) HN.out.size
  refine leaves_cons (f := 104) (args := #[.pointer (some ⟨p, 0, none⟩), .bool true]) (by simp) (by simp [go_sem]) ?_
  refine (store_deferred ⟨p, 0, none⟩ (.int .u32 0) .returning _ hR2.cell.1 (hR2.frozen 0)).mono ?_
  rintro e u' w'' ⟨rfl, rfl, rfl⟩
  refine leaves_cons (f := 103) (args := #[.pointer (some ⟨p, 1, none⟩)]) (by simp [settle]) (by simp [go_sem]) ?_
  refine (unlock_deferred ⟨p, 1, none⟩ _ _ hR3.cell.2.1 (hR3.frozen 1)).mono ?_
  rintro e u' w'' ⟨rfl, rfl, rfl⟩
  simp only [Leaves, settle, results, Try.results88]
  refine ⟨.tuple #[], ?_, rfl, tv2, hR4, hT4, hN4⟩
  first | rfl | (simp; done)

set_option maxRecDepth 100000 in
set_option maxHeartbeats 1600000 in
/-- '(*sync.Once).Do', not yet done, the lock free. -/
theorem do_first (p : Nat) (bt : Int) (hbt : 0 ≤ bt ∧ bt < 1000) (tv : Value) (w : World) (hrow : CRow p w 0 0 tv bt) :
    Calls Try.prog 59 #[.pointer (some ⟨p, 0, none⟩), .func (.func 60) #[.pointer (some ⟨p, 0, none⟩)] #[]] w (OncePost p bt w) := by
  have HL := Lib.hid (bool_load ⟨p, 0, none⟩ 0 false rfl w hrow.cell.1)
  have HR := Lib.hid hrow
  have hnot : ∀ (x : Bool) (w : World), (Op.unary .not (.bool x)).run Try.prog w = .ok (.bool (!x)) w := fun _ _ => rfl
  clear hrow
  go_enter Try.func59, Try.ntmps59
  go_wp2_with (first
    | (go_at_call 87; refine HL.out.mono ?_; rintro e w' ⟨rfl, hw⟩; obtain rfl := hw.symm; clear HL)
    | (go_at_call 88; refine (slow_any p bt hbt tv _ HR.out).mono ?_; rintro e w' ⟨rfl, tv2, hR2, hT2, hN2⟩))
  go_end0
  exact ⟨rfl, tv2, hR2, hT2, hN2⟩

/-- '(*sync.Once).Do', done already: the function is not called. -/
theorem do_done (p : Nat) (bt : Int) (tv fv : Value) (w : World) (hrow : CRow p w 1 0 tv bt) :
    Calls Try.prog 59 #[.pointer (some ⟨p, 0, none⟩), fv] w fun e w' => e = .returned (.tuple #[]) ∧ w' = w := by
  have HL := Lib.hid (bool_load ⟨p, 0, none⟩ 1 true rfl w hrow.cell.1)
  have hnot : ∀ (x : Bool) (w : World), (Op.unary .not (.bool x)).run Try.prog w = .ok (.bool (!x)) w := fun _ _ => rfl
  clear hrow
  go_enter Try.func59, Try.ntmps59
  go_wp2_with (go_at_call 87; refine HL.out.mono ?_; rintro e w' ⟨rfl, hw⟩; obtain rfl := hw.symm; clear HL)
  go_end0
  exact ⟨rfl, rfl⟩
end Go.Proofs.Ytmnaljnkgaebkaa
