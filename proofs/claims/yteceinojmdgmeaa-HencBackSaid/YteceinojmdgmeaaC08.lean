/- What (*huff.Coder).Decode does: the tree is built at the first call; the bits are read by it. -/
import Derived.Test.YteceinojmdgmeaaC07
namespace Go.Proofs.Yteceinojmdgmeaa
open Go.RowKit
set_option linter.unusedVariables false
set_option linter.unusedSimpArgs false

/-- Bytes in memory. -/
def BytesN (W : World) (oa : Option Addr) (bs : List Nat) : Prop := ∀ i, i < bs.length → ∃ a, oa = some a ∧ W.cell? (a.add i) = some (.int .u8 (bs.getD i 0 : Nat))
theorem cell_eq {W W' : World} {a : Addr} (h : W'.heap[a.block]? = W.heap[a.block]?) : W'.cell? a = W.cell? a := by unfold World.cell?; rw [h]
theorem BytesN.near {W W' : World} {oa : Option Addr} {bs : List Nat} {p : Nat} (h : BytesN W oa bs) (hp : ∀ a, oa = some a → a.block ≠ p) (hn : Near p W.heap.size W W') : BytesN W' oa bs := by
  intro i hi
  obtain ⟨a, ha, hc⟩ := h i hi
  refine ⟨a, ha, ?_⟩
  have hl : (a.add i).block < W.heap.size := World.block_lt_of_cell? _ _ hc
  rw [cell_eq (hn.block _ hl (by rw [show (a.add i).block = a.block from by unfold Addr.add; split <;> rfl]; exact hp a ha))]
  exact hc
theorem BytesN.below {W W' : World} {oa : Option Addr} {bs : List Nat} (h : BytesN W oa bs) (hn : Below W.heap.size W W') : BytesN W' oa bs := by
  intro i hi
  obtain ⟨a, ha, hc⟩ := h i hi
  exact ⟨a, ha, (cell_eq (hn.block _ (World.block_lt_of_cell? _ _ hc))).trans hc⟩
def decV : Option (List UInt8) → Value
  | none => .tuple #[.string ByteArray.empty, .int .i64 4]
  | some out => .tuple #[.string ⟨out.toArray⟩, .int .i64 0]
def DecPost (p : Nat) (bs : List Nat) (w : World) (e : Ending) (w' : World) : Prop :=
  e = .returned (decV (decL bs)) ∧ Done p w' 1 ∧ Near p w.heap.size w w'
theorem decode_none (v : Value) (w : World) : Calls Try.prog 94 #[.pointer none, v] w fun e w' => e = .returned (.tuple #[.string ByteArray.empty, .int .i64 1]) ∧ w' = w := by
  go_enter Try.func94, Try.ntmps94
  go_wp2_with fail
  refine bodyPost_ret (v := .tuple #[.string ByteArray.empty, .int .i64 1]) (by simp [results, Try.results94, go_sem]; rfl) rfl ⟨rfl, rfl⟩
theorem u8_bit (x r : Nat) (h : x < 256) : bits BinOp.and IntKind.u8 ((x : Int) / 2 ^ r) 1 = ((x / 2 ^ r % 2 : Nat) : Int) := by
  have e : ((x : Int) / 2 ^ r) = ((x / 2 ^ r : Nat) : Int) := by simp
  have hle := Nat.div_le_self x (2 ^ r)
  rw [e, show (1 : Int) = ((1 : Nat) : Int) from rfl, u8_and_nat _ _ (by omega) (by omega), Nat.and_one_is_mod]
theorem bits8_take (x j s : Nat) (h : s + 1 + j = 8) : (bitsN 8 x).take (j + 1) = (bitsN 8 x).take j ++ [x / 2 ^ s % 2] := by
  have hj : j < (bitsN 8 x).length := by rw [bitsN_len]; omega
  rw [List.take_succ_eq_append_getElem hj]
  have := bitsN_get 8 x j (by omega)
  rw [List.getElem?_eq_getElem hj] at this
  rw [Option.some.inj this, show 8 - 1 - j = s from by omega]
/-- The bytes read as a text. -/
theorem text_own (W : World) (base : Nat) (v : Value) (l : List UInt8) (h : OwnB W base v (l.map UInt8.toNat)) :
    (convert 23 9 v).run Try.prog W = .ok (.string ⟨l.toArray⟩) W := by
  rcases h.2 with ⟨rfl, h0⟩ | ⟨g, cap, cur, rfl, hb, hg, hn, hm, hs, ht⟩
  · have : l = [] := by simpa using h0
    subst this
    rw [run_convert_bytes_string W _ _ 5 none 0 0 Try.underlying23 Try.underlying5 Try.underlying9]
    rfl
  · have hl : (l.map UInt8.toNat).length = l.length := by simp
    rw [hl]
    refine run_convert_bytes_back W _ _ 5 ⟨g, 0, none⟩ cap l Try.underlying23 Try.underlying5 Try.underlying9 (fun j hj => ?_)
    exact World.ownsRow.cells h rfl j _ (by simp [List.getElem?_eq_getElem hj])

set_option maxRecDepth 100000 in
set_option maxHeartbeats 2000000 in
theorem decode_any (p : Nat) (w : World) (hr : Ready p w) (oa : Option Addr) (cap : Nat) (bs : List Nat) (hb : BytesN w oa bs) (hp : ∀ a, oa = some a → a.block ≠ p) (hlen : bs.length ≤ 1000000) (hbyte : ∀ i, i < bs.length → bs.getD i 0 < 256) :
    Calls Try.prog 94 #[.pointer (some ⟨p, 0, none⟩), .slice oa bs.length cap] w (DecPost p bs w) := by
  obtain ⟨i0, hi0, hz0, hz1, hz2⟩ := info_parts u8_info
  have HI := Lib.hid hi0
  have HZ0 := Lib.hid hz0
  have HZ1 := Lib.hid hz1
  have HZ2 := Lib.hid hz2
  clear hi0 hz0 hz1 hz2
  have HR := Lib.hid hr
  have HB := Lib.hid hb
  have HBY := Lib.hid hbyte
  clear hr hb hbyte
  have hmf : ∀ (fn : Fn) (first cap : Array Value) (w : World), (Instr.makeFunc fn first cap).run Try.prog w = .ok (.func fn first cap) w := fun _ _ _ _ => rfl
  go_enter Try.func94, Try.ntmps94
  go_wp2_with (go_at_call 96; refine (do_any p w HR.out).mono ?_; rintro e W3 ⟨rfl, hD, hN⟩; have HD := Lib.hid hD; have HN := Lib.hid hN; clear hD hN)
  have HB3 := Lib.hid (HB.out.near hp HN.out)
  clear HB HR
  obtain ⟨tv, B, hpB, hcr, htr⟩ := HD.out
  obtain ⟨g, tcap, rfl, hgB, hgs⟩ := (show W3.ownsRow B 172 2 tv 256 (treeL.map (Value.int .i64)) from htr).form (by decide)
  have htc : ∀ j, j < 512 → W3.cell? ⟨g, j, none⟩ = some (.int .i64 (treeL.getD j 0)) := fun j hj => tree_cell htr j (by omega) (by rw [treeL_len]; exact hj)
  have hgl : g < W3.heap.size := (htr.lt g rfl).2
  have hpl := hcr.lt
  have HTC := Lib.hid htc
  have HCR := Lib.hid hcr
  clear htc hcr htr
  have HF := Lib.hid (show ∀ W', Below W3.heap.size W3 W' → Done p W' 1 ∧ Near p w.heap.size w W' from fun W' hb => ⟨HD.out.below hb, HN.out.trans ((Near.of hb).mono HN.out.size)⟩)
  go_loopw [6, 7, 8, 9, 24] (fun out at' op fl i wr => ∃ (vv : Value) (a o : Nat) (f : Bool) (l : List UInt8) (k : Nat), out = vv ∧ at' = .int .i64 a ∧ op = .int .i64 o ∧ fl = .bool f ∧ i = .int .i64 k ∧ k ≤ bs.length ∧ dRun d0 (bytesBits (bs.take k)) = some (a, o, f, l) ∧ OwnB wr W3.heap.size vv (l.map UInt8.toNat) ∧ Below W3.heap.size W3 wr) (fun _ _ _ _ i _ => bs.length - (intOf i).toNat)
  case atStart => exact ⟨_, 0, 0, true, [], 0, rfl, rfl, rfl, rfl, rfl, Nat.zero_le _, rfl, World.ownsRow_nil _ _ _ _, Below.refl _ _⟩
  case round =>
    obtain ⟨vv, a, o, f, l, k, hv, rfl, rfl, rfl, rfl, hk, hrun, hown, bk⟩ := hrel
    obtain rfl := hv.symm
    by_cases hlt : k < bs.length
    · obtain ⟨ad, rfl, hc0⟩ := HB3.out k hlt
      have hc1 : wr.cell? (ad.add k) = some (.int .u8 (bs.getD k 0 : Nat)) := (cell_eq (bk.block _ (World.block_lt_of_cell? _ _ hc0))).trans hc0
      have hxb : bs.getD k 0 < 256 := HBY.out k hlt
      have HTK := Lib.hid (bytesBits_take bs k hlt)
      have HST := Lib.hid (fun j => decL_stop bs k j hlt)
      generalize bs.getD k 0 = x at hc1 hxb HTK HST
      clear hc0
      have hfalse := hrun
      have HRN := Lib.hid (show dRun d0 (bytesBits (bs.take k) ++ (bitsN 8 x).take 0) = some (a, o, f, l) from by rw [List.take_zero, List.append_nil]; exact hrun)
      have HO := Lib.hid hown
      have BK := Lib.hid bk
      clear hrun hown bk hfalse
      go_wp2_with fail
      go_loopw [6, 7, 8, 9, 12] (fun out at' op fl i wr => ∃ (vv : Value) (a o : Nat) (f : Bool) (l : List UInt8) (j r : Nat) (q : Int), out = vv ∧ at' = .int .i64 a ∧ op = .int .i64 o ∧ fl = .bool f ∧ i = .int .i64 q ∧ q = (r : Int) - 1 ∧ r + j = 8 ∧ dRun d0 (bytesBits (bs.take k) ++ (bitsN 8 x).take j) = some (a, o, f, l) ∧ OwnB wr W3.heap.size vv (l.map UInt8.toNat) ∧ Below W3.heap.size W3 wr) (fun _ _ _ _ i _ => ((intOf i) + 1).toNat)
      case atStart => exact ⟨_, a, o, f, l, 0, 8, 7, rfl, rfl, rfl, rfl, rfl, rfl, rfl, HRN.out, HO.out, BK.out⟩
      case round =>
        clear HRN HO BK
        obtain ⟨vv, a, o, f, l, j, r, q, hv, rfl, rfl, rfl, rfl, hq, hrj, hrun, hown, bk⟩ := hrel
        obtain rfl := hv.symm
        have HO := Lib.hid hown
        have BK := Lib.hid bk
        obtain ⟨hin1, hin2, hin3⟩ := dRun_d0 hrun
        simp only at hin1 hin2 hin3
        have hbl : (bytesBits (bs.take k) ++ (bitsN 8 x).take j).length ≤ 9000000 := by
          rw [List.length_append, bytesBits_len, List.length_take, List.length_take, bitsN_len]; omega
        cases r with
        | zero =>
          have hq0 : q = -1 := by omega
          subst hq0
          clear hq
          have hj8 : j = 8 := by omega
          subst hj8
          have HRN := Lib.hid (show dRun d0 (bytesBits (bs.take (k + 1))) = some (a, o, f, l) from by rw [HTK.out, ← hrun, List.take_of_length_le (i := 8) (l := bitsN 8 x) (by rw [bitsN_len]; exact Nat.le_refl _)])
          clear hrun hown bk
          go_wp2_with fail
          go_roundw
          case rel => exact ⟨_, a, o, f, l, k + 1, rfl, rfl, rfl, rfl, by go_num, by omega, HRN.out, HO.out, BK.out⟩
          case measure => simp [intOf]; omega
        | succ s =>
          have hqs : q = (s : Int) := by omega
          subst hqs
          clear hq
          have HB1 := Lib.hid (bits8_take x j s (by omega))
          have hbf := u8_bit x s hxb
          have hb2 : x / 2 ^ s % 2 < 2 := Nat.mod_lt _ (by decide)
          have HS := Lib.hid (dRun_snoc _ (x / 2 ^ s % 2) _ _ hrun)
          rw [List.append_assoc, ← HB1.out] at HS
          generalize x / 2 ^ s % 2 = b at hbf hb2 HS
          have hb2i : (b : Int) < 2 := by omega
          have hai : (a : Int) < 256 := by omega
          have hct : wr.cell? ⟨p, 3, none⟩ = some (.slice (some ⟨g, 0, none⟩) 256 tcap) := (HCR.out.step (bk.block p hpl)).cell.2.2.2.1
          have hcv : wr.cell? ⟨g, a * 2 + b, none⟩ = some (.int .i64 (treeL.getD (a * 2 + b) 0)) := (cell_eq (bk.block g hgl)).trans (HTC.out (a * 2 + b) (by omega))
          have hrng := tree_in (a * 2 + b)
          have hD : dStep (a, o, f, l) b = if treeL.getD (a * 2 + b) 0 = 0 then none else if treeL.getD (a * 2 + b) 0 < 0 then some (0, 0, true, l ++ [UInt8.ofNat (-1 - treeL.getD (a * 2 + b) 0).toNat]) else some ((treeL.getD (a * 2 + b) 0).toNat, o + 1, f && (b == 1), l) := rfl
          have HDS := Lib.hid hD
          clear hD hrun hown bk hin1
          generalize treeL.getD (a * 2 + b) 0 = V at hcv hrng HDS
          by_cases hV0 : V = 0
          · subst hV0
            have HN0 := Lib.hid (HST.out (j + 1) (by omega) (HS.out.trans HDS.out))
            cases f
            · go_wp2_with fail
              refine bodyPost_ret (v := .tuple #[.string ByteArray.empty, .int .i64 4]) (by simp [results, Try.results94, go_sem]; rfl) rfl ⟨by rw [HN0.out]; rfl, HF.out _ BK.out⟩
            · go_wp2_with fail
              refine bodyPost_ret (v := .tuple #[.string ByteArray.empty, .int .i64 4]) (by simp [results, Try.results94, go_sem]; rfl) rfl ⟨by rw [HN0.out]; rfl, HF.out _ BK.out⟩
          · by_cases hVn : V < 0
            · obtain ⟨c, hc⟩ : ∃ c : Nat, -1 - V = (c : Int) := ⟨(-1 - V).toNat, by omega⟩
              have hc8 : c < 256 := by omega
              have hw1 : IntKind.i64.wrap (-1 - V) = (c : Nat) := by rw [hc]; exact IntWalk.i64_in _ (by omega)
              have hw2 : IntKind.u8.wrap ((c : Nat) : Int) = (c : Nat) := IntWalk.u8_in _ (by omega)
              have HNX := Lib.hid (HS.out.trans (HDS.out.trans (by rw [if_neg hV0, if_pos hVn, hc] : _ = some (0, 0, true, l ++ [UInt8.ofNat ((c : Int)).toNat]))))
              have hl8 : (l.map UInt8.toNat).length ≤ 9000000 := by rw [List.length_map]; omega
              have hc1 : ∀ u ∈ [Value.int .u8 (c : Int)], u.oneCell' = true := by intro u hu; simp at hu; subst hu; rfl
              have hc2 : (l.map UInt8.toNat).length + 1 ≤ maxLen := by unfold maxLen; omega
              have hc3 : ((l.map UInt8.toNat).length + 1) * 1 ≤ 140737488355328 := by omega
              have hc4 : W3.heap.size ≤ wr.heap.size := BK.out.size
              have HMP := Lib.hid (show l.map UInt8.toNat ++ [c] = (l ++ [UInt8.ofNat ((c : Int)).toNat]).map UInt8.toNat from by simp; omega)
              clear hl8 hc hrng
              cases f
              · go_wp2_with (at_builtin; refine wpList_append_own_at _ rfl _ _ 23 rfl W3.heap.size 5 i0 _ 1 1 Try.underlying23 HI.out HZ0.out HZ1.out HZ2.out rfl (by omega) vv _ _ rfl (HO.out.alloc _) ⟨wr.heap.size, 0, none⟩ 1 1 [Value.int .u8 (c : Int)] rfl rfl (cells_new wr [Value.int .u8 (c : Int)] _) hc1 hc2 hc3 (by simp; omega) ?_; intro v3 w3 hown3 hg3 _ _; clear hc1 hc2 hc3 hc4)
                have B3 := Lib.hid ((BK.out.alloc BK.out.size _).grown hg3 (by have := BK.out.size; simp; omega) (fun q hq => (HO.out.lt q hq).1))
                have HO3 := Lib.hid (ownB_to (ownB_snoc hown3) HMP.out)
                clear hg3 hown3
                go_roundw
                case rel => exact ⟨_, 0, 0, true, _, j + 1, s, (s : Int) - 1, rfl, rfl, rfl, rfl, by go_num, rfl, by omega, HNX.out, HO3.out, B3.out⟩
                case measure => simp [intOf]
              · go_wp2_with (at_builtin; refine wpList_append_own_at _ rfl _ _ 23 rfl W3.heap.size 5 i0 _ 1 1 Try.underlying23 HI.out HZ0.out HZ1.out HZ2.out rfl (by omega) vv _ _ rfl (HO.out.alloc _) ⟨wr.heap.size, 0, none⟩ 1 1 [Value.int .u8 (c : Int)] rfl rfl (cells_new wr [Value.int .u8 (c : Int)] _) hc1 hc2 hc3 (by simp; omega) ?_; intro v3 w3 hown3 hg3 _ _; clear hc1 hc2 hc3 hc4)
                have B3 := Lib.hid ((BK.out.alloc BK.out.size _).grown hg3 (by have := BK.out.size; simp; omega) (fun q hq => (HO.out.lt q hq).1))
                have HO3 := Lib.hid (ownB_to (ownB_snoc hown3) HMP.out)
                clear hg3 hown3
                go_roundw
                case rel => exact ⟨_, 0, 0, true, _, j + 1, s, (s : Int) - 1, rfl, rfl, rfl, rfl, by go_num, rfl, by omega, HNX.out, HO3.out, B3.out⟩
                case measure => simp [intOf]
            · obtain ⟨v, rfl⟩ : ∃ v : Nat, V = (v : Int) := ⟨V.toNat, by omega⟩
              have HNX := Lib.hid (HS.out.trans (HDS.out.trans (by rw [if_neg hV0, if_neg hVn] : _ = some (((v : Int)).toNat, o + 1, f && (b == 1), l))))
              have hv256 : v < 256 := by omega
              clear hrng
              cases f
              · go_wp2_with fail
                go_roundw
                case rel => exact ⟨_, v, o + 1, false, l, j + 1, s, (s : Int) - 1, rfl, rfl, by go_num, rfl, by go_num, rfl, by omega, HNX.out, HO.out, BK.out⟩
                case measure => simp [intOf]
              · go_wp2_with fail
                go_roundw
                case rel => exact ⟨_, v, o + 1, b == 1, l, j + 1, s, (s : Int) - 1, rfl, rfl, by go_num, by simp; rcases (show b = 0 ∨ b = 1 by omega) with rfl | rfl <;> rfl, by go_num, rfl, by omega, HNX.out, HO.out, BK.out⟩
                case measure => simp [intOf]
    · obtain rfl : k = bs.length := by omega
      have hin := dRun_d0 hrun
      have HRN := Lib.hid hrun
      rw [List.take_length] at HRN
      have HO := Lib.hid hown
      have BK := Lib.hid bk
      clear hrun hown bk hin
      by_cases ho8 : 8 ≤ o
      · have ho8i : (8 : Int) ≤ (o : Int) := by omega
        have HN0 := Lib.hid (show decL bs = none from by unfold decL; rw [HRN.out]; simp [ho8])
        go_wp2_with fail
        refine bodyPost_ret (v := .tuple #[.string ByteArray.empty, .int .i64 4]) (by simp [results, Try.results94, go_sem]; rfl) rfl ⟨by rw [HN0.out]; rfl, HF.out _ BK.out⟩
      · have ho8i : ¬ (8 : Int) ≤ (o : Int) := by omega
        cases f
        · have HN0 := Lib.hid (show decL bs = none from by unfold decL; rw [HRN.out]; simp)
          go_wp2_with fail
          refine bodyPost_ret (v := .tuple #[.string ByteArray.empty, .int .i64 4]) (by simp [results, Try.results94, go_sem]; rfl) rfl ⟨by rw [HN0.out]; rfl, HF.out _ BK.out⟩
        · have HN0 := Lib.hid (show decL bs = some l from by unfold decL; rw [HRN.out]; simp [ho8])
          have htx := text_own wr W3.heap.size vv l HO.out
          go_wp2_with fail
          refine bodyPost_ret (v := .tuple #[.string ⟨l.toArray⟩, .int .i64 0]) (by simp [results, Try.results94, go_sem]) rfl ⟨by rw [HN0.out]; rfl, HF.out _ BK.out⟩
end Go.Proofs.Yteceinojmdgmeaa

