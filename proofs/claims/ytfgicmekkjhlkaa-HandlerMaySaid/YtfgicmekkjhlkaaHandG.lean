/- What handler.Find returns, for every path. -/
import Derived.Test.YtfgicmekkjhlkaaHandF
namespace Go.Proofs.Ytfgicmekkjhlkaa
open Go.RowKit
set_option linter.unusedVariables false
set_option linter.unusedSimpArgs false

def rQ (k : Nat) : ByteArray := ⟨(rP k).toArray⟩
theorem rQ_list (k : Nat) : (rQ k).data.toList = rP k := by simp [rQ]
theorem index_row (k : Nat) (hk : k < 5) (w : World) : (Instr.index 57 (.agg tab25) (.int .i64 (k : Int))).run Try.prog w = .ok (.agg #[.int .i64 (rS k), .int .i64 (rL k), .int .i64 0, .int .i64 (rC k), .string (rQ k)]) w :=
  index_tab k hk w
theorem hit_of {p : ByteArray} {k : Nat} (h : ((rQ k).toList == p.toList) = true) : p.data.toList = rP k := by
  have h' : (rQ k).toList = p.toList := by simpa using h
  rw [← tl, ← h', tl, rQ_list]
theorem hit_eq {p : ByteArray} {k : Nat} (h : ((rQ k).toList == p.toList) = true) : rQ k = p := by
  rw [str_eq (hit_of h)]; rfl
theorem miss_of {p : ByteArray} {k : Nat} (h : ¬ ((rQ k).toList == p.toList) = true) : p.data.toList ≠ rP k := by
  intro e
  apply h
  rw [tl, tl, rQ_list, e]
  simp

set_option maxHeartbeats 2000000 in
theorem find_at (s p : ByteArray) (hp : (⟨(plainL s.data.toList).toArray⟩ : ByteArray) = p) (w : World) (hs : s.size ≤ maxLen) :
    Calls Try.prog 10 #[.string s] w fun e w' => e = .returned (routeV p) ∧ Below w.heap.size w w' := by
  have hps : p.size ≤ maxLen := by
    have h1 : p.size = (plainL s.data.toList).length := by rw [← hp]; simp [ByteArray.size]
    have h2 := plain_length s.data.toList
    have h3 := sz s
    omega
  have HP := Lib.hid hp
  have HS := Lib.hid hs
  have HL := Lib.hid hps
  clear hp hs hps
  go_enter Try.func10, Try.ntmps10
  go_wp2_with fail
  refine (mark_cut s _ HS.out).mono ?_
  rintro e w' ⟨t, b, n, rfl, rfl⟩
  rw [HP.out]
  go_wp2_with fail
  refine (table_any _).mono ?_
  rintro e w1 ⟨rfl, hb1⟩
  have h1 := Lib.hid ((hb1.block w.heap.size (by simp)).trans (heap_alloc_new w _))
  have b1 : Below w.heap.size w w1 := (((Below.refl _ _).alloc (Nat.le_refl _) _).drewN n).trans (hb1.mono (by simp))
  have z1 : w.heap.size < w1.heap.size := by have := hb1.size; simp at this; omega
  clear hb1
  go_wp2_with fail
  go_loopw [16] (fun i wr => ∃ k : Nat, k ≤ 5 ∧ i = .int .i64 k ∧ (∀ j, j < k → p.data.toList ≠ rP j) ∧ Below w.heap.size w wr ∧ w.heap.size < wr.heap.size ∧ wr.heap[w.heap.size]? = some (.cells #[.string ⟨#[]⟩, .int .i64 0, .int .i64 0, .int .i64 0] 38 (0, 0))) (fun i _ => 5 - (intOf i).toNat)
  case atStart => exact ⟨0, Nat.zero_le _, rfl, fun j hj => absurd hj (by omega), b1, z1, h1.out⟩
  case round =>
    obtain ⟨k, hk, rfl, hm, bk, zk, hg⟩ := hrel
    have HM := Lib.hid hm
    have HG := Lib.hid hg
    have BK := Lib.hid bk
    clear hm hg bk h1 b1 z1
    by_cases hlt : k < 5
    · have hidx := fun W => index_row k hlt W
      by_cases hh : ((rQ k).toList == p.toList) = true
      · have HE := Lib.hid (hit_eq hh)
        have HR := Lib.hid (routeV_of (route_hit p.data.toList k hlt (hit_of hh)))
        go_wp2_with fail
        refine (rowRoute _ _ _ _ _ _).mono ?_
        rintro e w2 ⟨rfl, hb2⟩
        have h2 := Lib.hid ((hb2.block w.heap.size (by simp; omega)).trans ((heap_alloc_old wr _ zk).trans HG.out))
        have b2 := (BK.out.alloc (Nat.le_of_lt zk) _).trans (hb2.mono (by simp; omega))
        clear hb2
        go_wp2_with (refine wpList_store_row rfl _ _ _ rfl w.heap.size #[.string (rQ k), .int .i64 (rC k), .int .i64 (rS k), .int .i64 (rL k)] rfl rfl _ _ h2.out (by kernel_rfl) rfl (by kernel_rfl) ?_)
        rw [HR.out, ← HE.out]
        exact bodyPost_ret (results_cell_row rfl _ _ w.heap.size _ _ (0, 0) _ rfl (setRow_heap _ _ _ _ _ _ h2.out) Try.underlying38 rfl (by kernel_rfl)) rfl ⟨rfl, below_setRow b2 (Nat.le_refl _) _⟩
      · have HN := Lib.hid (miss_of hh)
        have hh := notTrue hh
        go_wp2_with fail
        go_roundw
        case rel =>
          exact ⟨k + 1, by omega, by go_num, fun j hj => by
            by_cases hjk : j = k
            · rw [hjk]; exact HN.out
            · exact HM.out j (by omega), BK.out.alloc (Nat.le_of_lt zk) _, by simp; omega, (heap_alloc_old wr _ zk).trans HG.out⟩
        case measure => simp [intOf]; omega
    · obtain rfl : k = 5 := by omega
      obtain ⟨r, hr⟩ : ∃ r : ByteArray, (⟨(Lib.trimPrefix p.data.toList (⟨#[47, 119, 111, 114, 107, 47]⟩ : ByteArray).data.toList).toArray⟩ : ByteArray) = r := ⟨_, rfl⟩
      obtain ⟨c, hc⟩ : ∃ c, Lib.hasPrefix p.data.toList (⟨#[47, 119, 111, 114, 107, 47]⟩ : ByteArray).data.toList = c := ⟨_, rfl⟩
      have hcut := fun W => Try.strings_CutPrefix p ⟨#[47, 119, 111, 114, 107, 47]⟩ W
      rw [hr, hc] at hcut
      have HCUT := Lib.hid hcut
      have HC : Hid (workP.isPrefixOf p.data.toList = c) := Lib.hid hc
      have HRR : Hid (c = true → r.data.toList = p.data.toList.drop 6) := Lib.hid (fun e => by
        rw [← hr]
        unfold Lib.trimPrefix
        rw [hc, e]
        simp)
      clear hcut hr hc
      cases c
      · have HR := Lib.hid (routeV_of (route_none _ HM.out (fun h => by have := HC.out.symm.trans h.1; cases this)))
        go_wp2_with fail
        refine (HCUT.out _).mono ?_
        rintro e w2 ⟨rfl, hw⟩
        obtain rfl := hw.symm
        go_wp2_with (refine wpList_store_row rfl _ _ _ rfl w.heap.size #[.string p, .int .i64 1, .int .i64 404, .int .i64 0] rfl rfl _ _ HG.out (by kernel_rfl) rfl (by kernel_rfl) ?_)
        rw [HR.out]
        exact bodyPost_ret (results_cell_row rfl _ _ w.heap.size _ _ (0, 0) _ rfl (setRow_heap _ _ _ _ _ _ HG.out) Try.underlying38 rfl (by kernel_rfl)) rfl ⟨rfl, below_setRow BK.out (Nat.le_refl _) _⟩
      have HX := Lib.hid (HRR.out rfl)
      have hrs : r.size ≤ maxLen := by
        have h1 := sz r
        have h2 := sz p
        rw [HX.out, List.length_drop] at h1
        have := HL.out
        omega
      obtain ⟨n, hn⟩ : ∃ n, numI r.data.toList = n := ⟨_, rfl⟩
      obtain ⟨b, hb⟩ : ∃ b, numOk r.data.toList = b := ⟨_, rfl⟩
      have hnum := fun W => reqNumber r W hrs
      rw [hn, hb] at hnum
      have HNUM := Lib.hid hnum
      obtain ⟨r1, r2⟩ := numI_range r.data.toList
      rw [hn] at r1 r2
      have HN := Lib.hid ((congrArg numI HX.out).symm.trans hn)
      have HB := Lib.hid ((congrArg numOk HX.out).symm.trans hb)
      clear hnum hn hb hrs
      go_wp2_with fail
      refine (HCUT.out _).mono ?_
      rintro e w2 ⟨rfl, hw⟩
      obtain rfl := hw.symm
      go_wp2_with fail
      refine (HNUM.out _).mono ?_
      rintro e w3 ⟨rfl, hb3⟩
      have h3 := Lib.hid ((hb3.block w.heap.size zk).trans HG.out)
      have b3 := BK.out.trans (hb3.mono (Nat.le_of_lt zk))
      clear hb3
      cases b
      · have HR := Lib.hid (routeV_of (route_none _ HM.out (fun h => by have := h.2.1.symm.trans HB.out; cases this)))
        go_wp2_with (refine wpList_store_row rfl _ _ _ rfl w.heap.size #[.string p, .int .i64 1, .int .i64 404, .int .i64 0] rfl rfl _ _ h3.out (by kernel_rfl) rfl (by kernel_rfl) ?_)
        rw [HR.out]
        exact bodyPost_ret (results_cell_row rfl _ _ w.heap.size _ _ (0, 0) _ rfl (setRow_heap _ _ _ _ _ _ h3.out) Try.underlying38 rfl (by kernel_rfl)) rfl ⟨rfl, below_setRow b3 (Nat.le_refl _) _⟩
      by_cases g1 : 0 < n
      case neg =>
        have HR := Lib.hid (routeV_of (route_none _ HM.out (fun h => g1 (by have := HN.out ▸ h.2.2.1; omega))))
        go_wp2_with (refine wpList_store_row rfl _ _ _ rfl w.heap.size #[.string p, .int .i64 1, .int .i64 404, .int .i64 0] rfl rfl _ _ h3.out (by kernel_rfl) rfl (by kernel_rfl) ?_)
        rw [HR.out]
        exact bodyPost_ret (results_cell_row rfl _ _ w.heap.size _ _ (0, 0) _ rfl (setRow_heap _ _ _ _ _ _ h3.out) Try.underlying38 rfl (by kernel_rfl)) rfl ⟨rfl, below_setRow b3 (Nat.le_refl _) _⟩
      by_cases g2 : n ≤ 1000
      case neg =>
        have HR := Lib.hid (routeV_of (route_none _ HM.out (fun h => g2 (HN.out ▸ h.2.2.2))))
        go_wp2_with (refine wpList_store_row rfl _ _ _ rfl w.heap.size #[.string p, .int .i64 1, .int .i64 404, .int .i64 0] rfl rfl _ _ h3.out (by kernel_rfl) rfl (by kernel_rfl) ?_)
        rw [HR.out]
        exact bodyPost_ret (results_cell_row rfl _ _ w.heap.size _ _ (0, 0) _ rfl (setRow_heap _ _ _ _ _ _ h3.out) Try.underlying38 rfl (by kernel_rfl)) rfl ⟨rfl, below_setRow b3 (Nat.le_refl _) _⟩
      have HR := Lib.hid (routeV_of (route_work _ HM.out HC.out HB.out (HN.out.symm ▸ (show 1 ≤ n by omega)) (HN.out.symm ▸ g2)))
      rw [HN.out] at HR
      go_wp2_with (refine wpList_store_row rfl _ _ _ rfl w.heap.size #[.string p, .int .i64 n, .int .i64 200, .int .i64 (n % 64)] rfl rfl _ _ h3.out (by kernel_rfl) rfl (by kernel_rfl) ?_)
      rw [HR.out]
      exact bodyPost_ret (results_cell_row rfl _ _ w.heap.size _ _ (0, 0) _ rfl (setRow_heap _ _ _ _ _ _ h3.out) Try.underlying38 rfl (by kernel_rfl)) rfl ⟨rfl, below_setRow b3 (Nat.le_refl _) _⟩
end Go.Proofs.Ytfgicmekkjhlkaa
