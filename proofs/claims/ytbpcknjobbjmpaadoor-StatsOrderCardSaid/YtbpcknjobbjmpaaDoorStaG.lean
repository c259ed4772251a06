/- The names are built once: what sync.Once does, not yet done and the lock free, and done already. -/
import Derived.Test.YtbpcknjobbjmpaaDoorStaF
import Derived.Tactics
import Derived.Tactics2
import Derived.Defers
import Derived.Laws.Pointers
import Derived.Laws.LoneSync
import Derived.RegionTactic
import Derived.RegionCalls
namespace Go.Proofs.YtbpcknjobbjmpaaDoor
open Go.RowKit
set_option linter.unusedVariables false
set_option linter.unusedSimpArgs false

theorem disable (w : World) : (callFunc 106 #[]).run Tryd.prog w = .ok (.value (.tuple #[])) w := run_call_mark0 Tryd.func106 (by kernel_rfl) (by kernel_rfl) (by kernel_rfl) .disable (by kernel_rfl) w
theorem enable (w : World) : (callFunc 108 #[]).run Tryd.prog w = .ok (.value (.tuple #[])) w := run_call_mark0 Tryd.func108 (by kernel_rfl) (by kernel_rfl) (by kernel_rfl) .enable (by kernel_rfl) w
theorem acquire (a : Addr) (w : World) : (callFunc 109 #[.pointer (some a)]).run Tryd.prog w = .ok (.value (.tuple #[])) w := run_call_marked Tryd.func109 (by kernel_rfl) (by kernel_rfl) (by kernel_rfl) .acquire (by kernel_rfl) a w
theorem releaseMerge (a : Addr) (w : World) : (callFunc 111 #[.pointer (some a)]).run Tryd.prog w = .ok (.value (.tuple #[])) w := run_call_marked Tryd.func111 (by kernel_rfl) (by kernel_rfl) (by kernel_rfl) .releaseMerge (by kernel_rfl) a w

/-- '(*sync/atomic.Bool).Store(true)', entered as a deferred call: the cell holds 1. -/
theorem store_deferred (a : Addr) (x : Value) (u : FrameMode) (w : World) (hc : w.cell? a = some x) (hz : w.frozen? a = false) :
    CallsD Tryd.prog 78 #[.pointer (some a), .bool true] u w fun e u' w' => u' = u ∧ (e = .returned (.tuple #[]) ∧ w' = w.drew.setCell a (.int .u32 1)) := by
  have hc' : w.drew.cell? a = some x := by go_simp
  have hz' : w.drew.frozen? a = false := by go_simp
  have hst := run_call_store (P := Tryd.prog) Tryd.func91 (by kernel_rfl) (by kernel_rfl) (by kernel_rfl) (by kernel_rfl) (k := .u32) (y := 1) hc' hz'
  go_enter_d Tryd.func78, Tryd.ntmps78
  go_wp2
  go_region_calls
  all_goals (go_end0; exact ⟨rfl, rfl⟩)

set_option maxRecDepth 100000 in
/-- '(*sync.Mutex).Unlock', entered as a deferred call, the lock held and nobody waiting. -/
theorem unlock_deferred (a : Addr) (u : FrameMode) (w : World) (hc : w.cell? a = some (.int .i32 1)) (hz : w.frozen? a = false) :
    CallsD Tryd.prog 77 #[.pointer (some a)] u w fun e u' w' => u' = u ∧ (e = .returned (.tuple #[]) ∧ w' = w.setCell a (.int .i32 0)) := by
  have hd := disable
  have he := enable
  have hr := releaseMerge
  have hadd := run_call_add (P := Tryd.prog) Tryd.func112 (by kernel_rfl) (by kernel_rfl) (by kernel_rfl) .i32 (by kernel_rfl) (y := -1) (s := 0) hc hz (by simp [go_sem]; rfl)
  have hcv := run_convert_to_unsafe (P := Tryd.prog) (src := 162) (dst := 159) Tryd.underlying162 Tryd.underlying159 (by kernel_rfl) hc
  go_enter_d Tryd.func77, Tryd.ntmps77
  go_wp2
  go_end0
  go_wp2
  go_end0
  exact ⟨rfl, rfl⟩

set_option maxRecDepth 100000 in
/-- '(*sync.Mutex).Lock', the lock free. -/
theorem lock_free (a : Addr) (w : World) (hc : w.cell? a = some (.int .i32 0)) (hz : w.frozen? a = false) :
    Calls Tryd.prog 76 #[.pointer (some a)] w fun e w' => e = .returned (.tuple #[]) ∧ w' = w.setCell a (.int .i32 1) := by
  have hd := disable
  have he := enable
  have ha := acquire
  have hcas := run_call_cas_hit (P := Tryd.prog) Tryd.func107 (by kernel_rfl) (by kernel_rfl) (by kernel_rfl) .i32 (by kernel_rfl) (y := 1) hc hz
  have hc' : (w.setCell a (.int .i32 1)).cell? a = some (.int .i32 1) := World.cell?_setCell_same w a _ hc
  have hcv := run_convert_to_unsafe (P := Tryd.prog) (src := 162) (dst := 159) Tryd.underlying162 Tryd.underlying159 (by kernel_rfl) hc'
  go_enter Tryd.func76, Tryd.ntmps76
  go_wp2
  first | go_end0 | (simp only [Exit.inBlock, Exit.then]; refine bodyPost_ret (results_none rfl _ _ _) rfl ?_) | refine bodyPost_ret (results_none rfl _ _ _) rfl ?_
  go_wp2
  go_end0
  exact ⟨rfl, rfl⟩

/-- '(*sync/atomic.Bool).Load'. -/
theorem bool_load (a : Addr) (x : Int) (b : Bool) (hb : (x != 0) = b) (w : World) (hc : w.cell? a = some (.int .u32 x)) :
    Calls Tryd.prog 61 #[.pointer (some a)] w fun e w' => e = .returned (.bool b) ∧ w' = w := by
  have hl := run_call_load (P := Tryd.prog) Tryd.func75 (by kernel_rfl) (by kernel_rfl) (by kernel_rfl) .u32 (by kernel_rfl) hc
  go_enter Tryd.func61, Tryd.ntmps61
  go_wp2
  go_ret
  exact ⟨rfl, rfl⟩


def nameS (k : Nat) : ByteArray := match k with
  | 0 => ⟨#[97, 100, 109, 105, 116]⟩
  | 1 => ⟨#[114, 101, 102, 117, 115, 101]⟩
  | 2 => ⟨#[109, 97, 110, 121]⟩
  | 3 => ⟨#[98, 117, 115, 121]⟩
  | _ => ⟨#[119, 114, 111, 110, 103]⟩
def nameRow : Array Value := #[.string (nameS 0), .string (nameS 1), .string (nameS 2), .string (nameS 3), .string (nameS 4)]
/-- The names lie in a block of their own. -/
def NamesV (W : World) (p : Nat) (nv : Value) : Prop := ∃ g, nv = .slice (some ⟨g, 0, none⟩) 5 5 ∧ g ≠ p ∧ W.heap[g]? = some (.cells nameRow 9 (0, 0))
theorem NamesV.near {W W' : World} {p : Nat} {nv : Value} (h : NamesV W p nv) (hn : Near p W.heap.size W W') : NamesV W' p nv := by
  obtain ⟨g, e, hp, hr⟩ := h
  exact ⟨g, e, hp, (hn.block g (Array.getElem?_eq_some_iff.1 hr).1 hp).trans hr⟩
def NamePost (p : Nat) (d m bt : Int) (A : Nat → Int) (w : World) (e : Ending) (w' : World) : Prop :=
  e = .returned (.tuple #[]) ∧ ∃ nv, Brd p w' d m nv (bt + 1) A ∧ NamesV w' p nv ∧ Near p w.heap.size w w'
set_option maxRecDepth 100000 in
set_option maxHeartbeats 1600000 in
theorem name_any (p : Nat) (d m bt : Int) (hbt : 0 ≤ bt ∧ bt < 1000) (nv : Value) (A : Nat → Int) (w : World) (h : Brd p w d m nv bt A) :
    Calls Tryd.prog 44 #[.pointer (some ⟨p, 0, none⟩)] w (NamePost p d m bt A w) := by
  have hplt := h.lt
  have hw3 := h.front.2.2.2.1
  have hw4 := h.front.2.2.2.2
  have hf3 := h.frozen 3
  have hf4 := h.frozen 4
  have hB1 := h.set3 (.slice (some ⟨w.heap.size, 0, none⟩) 5 5)
  have hB2 := hB1.set4 (bt + 1)
  have hsz : ((w.setCell ⟨p, 3, none⟩ (.slice (some ⟨w.heap.size, 0, none⟩) 5 5)).setCell ⟨p, 4, none⟩ (.int .i64 (bt + 1))).heap.size = w.heap.size := by simp [World.setCell]
  have hB3 := hB2.below hB2.lt ((Below.refl _ _).alloc (Nat.le_refl _) (.cells nameRow 9))
  have hN := (((Near.refl p w.heap.size w).setCell (q := ⟨p, 3, none⟩) (.inl rfl) (.slice (some ⟨w.heap.size, 0, none⟩) 5 5)).setCell (q := ⟨p, 4, none⟩) (.inl rfl) (.int .i64 (bt + 1))).alloc (Nat.le_of_eq hsz.symm) (.cells nameRow 9)
  have hR1 := heap_alloc_new ((w.setCell ⟨p, 3, none⟩ (.slice (some ⟨w.heap.size, 0, none⟩) 5 5)).setCell ⟨p, 4, none⟩ (.int .i64 (bt + 1))) (.cells nameRow 9)
  rw [hsz] at hR1
  have hw5 : IntKind.i64.wrap (bt + 1) = bt + 1 := IntWalk.i64_in _ (by omega)
  have hne : w.heap.size ≠ p := by omega
  have FIN := Lib.hid (show NamePost p d m bt A w (.returned (.tuple #[])) _ from ⟨rfl, _, hB3, ⟨_, rfl, hne, hR1⟩, hN⟩)
  clear hB1 hB2 hB3 hN hR1 hsz h
  unfold nameRow nameS at *
  go_enter Tryd.func44, Tryd.ntmps44
  go_wp2_with fail
  go_end0
  exact FIN.out
def OncePost (p : Nat) (bt : Int) (A : Nat → Int) (w : World) (e : Ending) (w' : World) : Prop :=
  e = .returned (.tuple #[]) ∧ ∃ nv, Brd p w' 1 0 nv (bt + 1) A ∧ NamesV w' p nv ∧ Near p w.heap.size w w'
set_option maxRecDepth 100000 in
set_option maxHeartbeats 1600000 in
theorem slow_any (p : Nat) (bt : Int) (hbt : 0 ≤ bt ∧ bt < 1000) (nv : Value) (A : Nat → Int) (w : World) (hrow : Brd p w 0 0 nv bt A) :
    Calls Tryd.prog 62 #[.pointer (some ⟨p, 0, none⟩), .func (.func 44) #[.pointer (some ⟨p, 0, none⟩)] #[]] w (OncePost p bt A w) := by
  have hR1 := hrow.set1 1
  have hN1 : Near p w.heap.size w (w.setCell ⟨p, 1, none⟩ (.int .i32 1)) := (Near.refl p _ w).setCell (q := ⟨p, 1, none⟩) (.inl rfl) _
  have HL := Lib.hid (bool_load ⟨p, 0, none⟩ 0 false rfl (w.setCell ⟨p, 1, none⟩ (.int .i32 1)) hR1.front.1)
  have hnot : ∀ (x : Bool) (w : World), (Op.unary .not (.bool x)).run Tryd.prog w = .ok (.bool (!x)) w := fun _ _ => rfl
  have HK := Lib.hid (lock_free ⟨p, 1, none⟩ w hrow.front.2.1 (hrow.frozen 1))
  have HR := Lib.hid hR1
  have HN := Lib.hid hN1
  clear hR1 hN1 hrow
  go_enter_defers Tryd.func62, Tryd.ntmps62
  go_wp2_with (first
    | (go_at_call 76; refine HK.out.mono ?_; rintro e w' ⟨rfl, rfl⟩; generalize hW1 : w.setCell ⟨p, 1, none⟩ (.int .i32 1) = W1 at HL HR HN ⊢)
    | (go_at_call 61; refine HL.out.mono ?_; rintro e w' ⟨rfl, hw⟩; obtain rfl := hw.symm; clear HL)
    | (go_at_call 44; refine (name_any p 0 1 bt hbt nv A _ HR.out).mono ?_; rintro e w' ⟨rfl, nv2, hR2, hT2, hN2⟩))
  have hp := hR2.lt
  have hRd : Brd p w'.drew 0 1 nv2 (bt + 1) A := hR2.step rfl
  have hR3 := hRd.set0 1
  have hR4 := hR3.set1 0
  have hN4 : Near p w.heap.size w ((w'.drew.setCell ⟨p, 0, none⟩ (.int .u32 1)).setCell ⟨p, 1, none⟩ (.int .i32 0)) :=
    (((HN.out.trans (hN2.mono HN.out.size)).drew).setCell (q := ⟨p, 0, none⟩) (.inl rfl) _).setCell (q := ⟨p, 1, none⟩) (.inl rfl) _
  have hT4 : NamesV ((w'.drew.setCell ⟨p, 0, none⟩ (.int .u32 1)).setCell ⟨p, 1, none⟩ (.int .i32 0)) p nv2 :=
    hT2.near (((Near.refl p _ w').drew.setCell (q := ⟨p, 0, none⟩) (.inl rfl) _).setCell (q := ⟨p, 1, none⟩) (.inl rfl) _)
  refine leaves_cons (f := 78) (args := #[.pointer (some ⟨p, 0, none⟩), .bool true]) (by simp) (by simp [go_sem]) ?_
  refine (store_deferred ⟨p, 0, none⟩ (.int .u32 0) .returning _ hR2.front.1 (hR2.frozen 0)).mono ?_
  rintro e u' w'' ⟨rfl, rfl, rfl⟩
  refine leaves_cons (f := 77) (args := #[.pointer (some ⟨p, 1, none⟩)]) (by simp [settle]) (by simp [go_sem]) ?_
  refine (unlock_deferred ⟨p, 1, none⟩ _ _ hR3.front.2.1 (hR3.frozen 1)).mono ?_
  rintro e u' w'' ⟨rfl, rfl, rfl⟩
  simp only [Leaves, settle, results, Tryd.results62]
  refine ⟨.tuple #[], ?_, rfl, nv2, hR4, hT4, hN4⟩
  first | rfl | (simp; done)

set_option maxRecDepth 100000 in
set_option maxHeartbeats 1600000 in
/-- '(*sync.Once).Do', not yet done, the lock free. -/
theorem do_first (p : Nat) (bt : Int) (hbt : 0 ≤ bt ∧ bt < 1000) (nv : Value) (A : Nat → Int) (w : World) (hrow : Brd p w 0 0 nv bt A) :
    Calls Tryd.prog 43 #[.pointer (some ⟨p, 0, none⟩), .func (.func 44) #[.pointer (some ⟨p, 0, none⟩)] #[]] w (OncePost p bt A w) := by
  have HL := Lib.hid (bool_load ⟨p, 0, none⟩ 0 false rfl w hrow.front.1)
  have HR := Lib.hid hrow
  have hnot : ∀ (x : Bool) (w : World), (Op.unary .not (.bool x)).run Tryd.prog w = .ok (.bool (!x)) w := fun _ _ => rfl
  clear hrow
  go_enter Tryd.func43, Tryd.ntmps43
  go_wp2_with (first
    | (go_at_call 61; refine HL.out.mono ?_; rintro e w' ⟨rfl, hw⟩; obtain rfl := hw.symm; clear HL)
    | (go_at_call 62; refine (slow_any p bt hbt nv A _ HR.out).mono ?_; rintro e w' ⟨rfl, nv2, hR2, hT2, hN2⟩))
  go_end0
  exact ⟨rfl, nv2, hR2, hT2, hN2⟩

/-- '(*sync.Once).Do', done already: the function is not called. -/
theorem do_done (p : Nat) (bt : Int) (nv fv : Value) (A : Nat → Int) (w : World) (hrow : Brd p w 1 0 nv bt A) :
    Calls Tryd.prog 43 #[.pointer (some ⟨p, 0, none⟩), fv] w fun e w' => e = .returned (.tuple #[]) ∧ w' = w := by
  have HL := Lib.hid (bool_load ⟨p, 0, none⟩ 1 true rfl w hrow.front.1)
  have hnot : ∀ (x : Bool) (w : World), (Op.unary .not (.bool x)).run Tryd.prog w = .ok (.bool (!x)) w := fun _ _ => rfl
  clear hrow
  go_enter Tryd.func43, Tryd.ntmps43
  go_wp2_with (go_at_call 61; refine HL.out.mono ?_; rintro e w' ⟨rfl, hw⟩; obtain rfl := hw.symm; clear HL)
  go_end0
  exact ⟨rfl, rfl⟩
end Go.Proofs.YtbpcknjobbjmpaaDoor
