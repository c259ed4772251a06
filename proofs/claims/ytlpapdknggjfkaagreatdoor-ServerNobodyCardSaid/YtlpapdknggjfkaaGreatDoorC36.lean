/- unack.Greatest: the walk. -/
import Derived.Test.YtlpapdknggjfkaaGreatDoorC35
import Derived.Maps.AppendAt
namespace Go.Proofs.YtlpapdknggjfkaaGreatDoor
open Go.RowKit Go.Shelf
set_option linter.unusedVariables false
set_option linter.unusedSimpArgs false
attribute [local go_sem] Oper.semAt_some

def mxN (h : Int) (l : List Nat) : Int := l.foldl (fun (a : Int) (x : Nat) => if a < (x : Int) then (x : Int) else a) h
theorem mxN_snoc (h : Int) (l : List Nat) (x : Nat) : mxN h (l ++ [x]) = if mxN h l < (x : Int) then (x : Int) else mxN h l := by
  unfold mxN
  rw [List.foldl_append]
  rfl
theorem values_any (oa : Option Addr) (n cap id : Nat) (w : World) : Calls Tryz.prog 300 #[.slice oa n cap, .int .u16 (id : Int)] w fun e w' =>
    e = .returned (.func (.func 336) #[] #[.pointer (some ⟨w.heap.size, 0, none⟩), .pointer (some ⟨w.heap.size + 1, 0, none⟩)]) ∧ w' = (w.alloc (.cells #[.slice oa n cap] 48)).alloc (.cells #[.int .u16 (id : Int)] 203) := by
  go_enter Tryz.func300, Tryz.ntmps300
  go_wp2_with fail
  go_ret
  exact ⟨rfl, rfl⟩
theorem values_stops (N0 : Nat) (hN0 : 1 ≤ N0) (w : World) (Bq Bi g : Nat) (oa : Option Addr) (n cap id : Nat) (ia : Nat → Option Addr) (im ic : Nat → Nat) (is : Nat → Int) (pi pv : Nat → Nat → Nat)
    (hn : n < 1000000) (him : ∀ k, k < n → im k < 1000000) (hpv : ∀ k j, pv k j < 4294967296)
    (hq : QRow w g oa n ia im ic is pi pv) (hBq : w.heap[Bq]? = some (.cells #[.slice oa n cap] 48)) (hBi : w.heap[Bi]? = some (.cells #[.int .u16 (id : Int)] 203)) (hgq : Bq ≠ g) (hgi : Bi ≠ g) :
    SeqStopsK Fence.wide N0 Tryz.prog 336 #[.pointer (some ⟨Bq, 0, none⟩), .pointer (some ⟨Bi, 0, none⟩)] encN (KpG g) (fun ys => ys = xsK id im pi pv n) (fun _ => True) ((xsK id im pi pv n).length + 1) w := fun l J Jx W hW hJ _ hY h0 => by
  have hk : KpG g w W := KpG.of_below hW
  exact values1_in N0 hN0 l Bq Bi g J Jx W oa n cap id ia im ic is pi pv hn him hpv hJ hY (hq.kept hk) (hk _ _ _ _ hgq hBq) (hk _ _ _ _ hgi hBi) hgq hgi h0
set_option maxRecDepth 100000 in
set_option maxHeartbeats 8000000 in
theorem greatest_any (oa : Option Addr) (n cap id : Nat) (held : Int) (w : World) (ia : Nat → Option Addr) (im ic : Nat → Nat) (is : Nat → Int) (pi pv : Nat → Nat → Nat)
    (hn : n < 1000000) (him : ∀ k, k < n → im k < 1000000) (hpv : ∀ k j, pv k j < 4294967296) (hq : QRow w w.heap.size oa n ia im ic is pi pv) :
    Calls Tryz.prog 249 #[.slice oa n cap, .int .u16 (id : Int), .int .i64 held] w fun e w' => e = .returned (.int .i64 (mxN held (xsK id im pi pv n))) ∧ Below w.heap.size w w' := by
  have HQ := Lib.hid hq
  clear hq
  refine (callsIn_wide (n := 3)).1 ?_
  refine callsIn_of_wp_marks Tryz.func249 rfl trivial ?_ rfl
  simp only [Tryz.ntmps249, List.size_toArray, List.length_cons, List.length_nil, Nat.reduceAdd, Nat.reduceSub, Array.replicate_succ, Array.replicate_zero, List.push_toArray, List.append_toArray, List.nil_append, List.cons_append]
  gi_wp2_with (first
    | (refine ⟨trivial, ?_⟩; gi_at_call 300; refine (callsIn_wide.2 (values_any oa n cap id _)).mono ?_; rintro e w3 ⟨rfl, rfl⟩))
  have hbox := Boxed.new w 3 (.int .i64 held)
  have hb1 := Boxed.new (w.alloc (.cells #[.int .i64 held] 3)) 48 (.slice oa n cap)
  have hb2 := Boxed.new ((w.alloc (.cells #[.int .i64 held] 3)).alloc (.cells #[.slice oa n cap] 48)) 203 (.int .u16 (id : Int))
  simp only [World.size_alloc] at hb1 hb2
  have hbw : Below w.heap.size w (((w.alloc (.cells #[.int .i64 held] 3)).alloc (.cells #[.slice oa n cap] 48)).alloc (.cells #[.int .u16 (id : Int)] 203)) := (((Below.refl _ w).alloc (Nat.le_refl _) _).alloc (by simp) _).alloc (by simp; omega) _
  have hq3 := HQ.out.kept (KpG.of_below hbw)
  have hb1' := hb1.alloc (.cells #[.int .u16 (id : Int)] 203)
  have hbox' := (hbox.alloc (.cells #[.slice oa n cap] 48)).alloc (.cells #[.int .u16 (id : Int)] 203)
  refine wpIn_rangeFunc_ownF rfl (by omega) (gf := 336) (lb := #[.pointer (some ⟨w.heap.size + 1, 0, none⟩), .pointer (some ⟨w.heap.size + 1 + 1, 0, none⟩)]) rfl trivial (enters_of Tryz.func336 (by kernel_rfl) rfl)
    (values_stops (3 - 1) (by omega) _ (w.heap.size + 1) (w.heap.size + 1 + 1) w.heap.size oa n cap id ia im ic is pi pv hn him hpv hq3 hb1' hb2 (by omega) (by omega))
    KpG.trans (fun W l o o' hle hl hc hw j arr el fz hj h => (World.putObj_heap_other (fun e => by subst e; rw [h] at hl; cases hl; cases hc)).trans h) (Below.refl _ _) (fun _ => rfl)
    (fun pre W => Boxed W w.heap.size 3 (.int .i64 (mxN held pre)) ∧ Below w.heap.size w W)
    (fun _ _ _ => False)
    (OwnFrom.and (fun s W W' row hs hg hr => (hg.block w.heap.size (by have := Boxed.lt hs; omega) (fun e => by obtain ⟨hB, _⟩ := hr _ e.symm; simp at hB; omega)).trans hs) (ownFrom_below (Nat.le_refl _) (by simp; omega)))
    (fun _ _ _ _ _ hs _ _ => hs)
    ⟨hbox', hbw⟩
    (fun x => { tmps := #[.slice oa n cap, .int .u16 (id : Int), .int .i64 held, undef, undef, .pointer (some ⟨w.heap.size, 0, none⟩), .int .i64 0, .int .i64 (x : Int), .slice oa n cap, .int .u16 (id : Int), .func (.func 336) #[] #[.pointer (some ⟨w.heap.size + 1, 0, none⟩), .pointer (some ⟨w.heap.size + 1 + 1, 0, none⟩)], .int .i64 (x : Int), undef, undef, undef, undef], defers := [] }) ?assign ?body ?done ?stop
  case assign =>
    intro l x W K hK
    gi_wp2
    exact hK
  case body =>
    rintro l pre x W ⟨hv, hB⟩ hlen
    have hvc := hv.cell
    have hf := hv.frozen
    have HS := Lib.hid (mxN_snoc held pre x)
    have hkp : ∀ v, KpG w.heap.size W (W.setCell ⟨w.heap.size, 0, none⟩ v) := fun v j arr el fz hj h => (Below.heap_setCell _ _ _ j (fun e => hj (by first | exact e | exact e.symm))).trans h
    gi_wp2
    · rename_i h
      refine ⟨KeepsOthers.setCell _ _ _, hkp _, ?_, hB.setCell (Nat.le_refl _) _⟩
      rw [HS.out, if_pos (by omega)]
      exact hv.set _
    · rename_i h
      refine ⟨KeepsOthers.setCell _ _ _, hkp _, ?_, hB.setCell (Nat.le_refl _) _⟩
      rw [HS.out, if_neg (by omega)]
      exact hv.set _
  case done =>
    rintro D ys W hD rfl ⟨hv, hB⟩ hK
    have hvc := hv.cell
    have hbf := hB.trans (belowK_b (w := w) (Nat.le_refl _) _ D _ (.deferred none) (by simp at hD; omega) hK rfl rfl)
    gi_wp2
    refine ⟨by simp, .inl ⟨_, _, rfl, run_takeDeferred hK, ?_⟩⟩
    refine ⟨_, ?_, rfl, hbf⟩
    simp [results, Tryz.results249, go_sem]
  case stop =>
    rintro D c pre W _ _ h _
    exact h.elim
end Go.Proofs.YtlpapdknggjfkaaGreatDoor

