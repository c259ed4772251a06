/- The document's side of a request: bytes, names, methods, values, ranks. -/
import Derived.Test.YtecmccihldjicaaDoorReqL
import Derived.Deep.AppendLies
namespace Go.Proofs.YtecmccihldjicaaDoor
open Go.RowKit
set_option linter.unusedVariables false
set_option linter.unusedSimpArgs false

def inS (l : List UInt8) (c : UInt8) : Bool := l.contains c
set_option maxHeartbeats 1000000 in
theorem in_any (s : ByteArray) (hs : s.size ≤ 1000) (c : UInt8) (w : World) : Calls Tryd.prog 44 #[.string s, .int .u8 (c.toNat : Int)] w fun e w' => e = .returned (.bool (inS s.data.toList c)) ∧ w = w' := by
  go_enter Tryd.func44, Tryd.ntmps44
  go_wp2
  go_loop [5] (fun i => ∃ k : Nat, i = .int .i64 k ∧ k ≤ s.size ∧ inS (s.data.toList.take k) c = false) (fun i => s.size - (intOf i).toNat)
  case atStart => exact ⟨0, rfl, Nat.zero_le _, rfl⟩
  case round =>
    obtain ⟨k, rfl, hk, hd⟩ := hrel
    have HD := Lib.hid hd
    clear hd
    by_cases hlt : k < s.size
    · have HTK := Lib.hid (take_byte s k hlt)
      have hw1 : IntKind.i64.wrap ((k : Int) + 1) = (k : Int) + 1 := IntWalk.i64_in _ (by omega)
      by_cases hc : s[k] = c
      · have HR : Hid (inS s.data.toList c = true) := Lib.hid (by
          unfold inS
          rw [List.contains_iff_mem, ← hc, ← byte_at s k hlt]
          exact List.getElem_mem _)
        have q : ((s[k].toNat : Int) == (c.toNat : Int)) = true := by rw [hc]; simp
        clear hc
        go_wp2_with fail
        go_ret
        exact ⟨ret_b HR.out.symm, rfl⟩
      · have hne : s[k].toNat ≠ c.toNat := fun e => hc (UInt8.toNat_inj.1 e)
        have q : ((s[k].toNat : Int) == (c.toNat : Int)) = false := beq_eq_false_iff_ne.2 (by omega)
        have HC := Lib.hid hc
        clear hc hne
        go_wp2_with fail
        go_round
        case rel => exact ⟨k + 1, rfl, hlt, by
          have h1 := HD.out
          unfold inS at h1 ⊢
          rw [HTK.out, List.contains_eq_any_beq, List.any_append, ← List.contains_eq_any_beq, h1]
          simp
          exact fun e => HC.out e.symm⟩
        case measure => simp [intOf]; omega
    · obtain rfl : k = s.size := by omega
      have HR : Hid (inS s.data.toList c = false) := Lib.hid (by have := HD.out; rwa [List.take_of_length_le (by rw [← sz]; exact Nat.le_refl _)] at this)
      go_wp2_with fail
      go_ret
      exact ⟨ret_b HR.out.symm, rfl⟩
theorem sign_all : ∀ n : Fin 256, inS signL (UInt8.ofNat n.val) = decide (0 ≤ sgI n.val) := by decide +kernel
theorem sign_in (c : UInt8) : inS signL c = decide (0 ≤ sgI c.toNat) := by
  have := sign_all ⟨c.toNat, byte_lt c⟩
  simpa using this
set_option maxHeartbeats 2000000 in
theorem sign_any (c : UInt8) (w : World) : Calls Tryd.prog 36 #[.int .u8 (c.toNat : Int)] w fun e w' => e = .returned (.bool (signB c)) ∧ w = w' := by
  have hc := byte_lt c
  have HC := Lib.hid (fun W => in_any ⟨#[33, 35, 36, 37, 38, 39, 42, 43, 45, 46, 94, 95, 96, 124, 126]⟩ (by decide) c W)
  have e : (ByteArray.mk #[33, 35, 36, 37, 38, 39, 42, 43, 45, 46, 94, 95, 96, 124, 126]).data.toList = signL := rfl
  rw [e, sign_in] at HC
  unfold signB
  generalize c.toNat = n at hc HC ⊢
  obtain ⟨b5, h5⟩ : ∃ x, decide (0 ≤ sgI n) = x := ⟨_, rfl⟩
  rw [h5] at HC ⊢
  have e1 : decide ((97 : Int) ≤ (n : Int)) = decide (97 ≤ n) := decide_eq_decide.2 (by omega)
  have e2 : decide ((n : Int) ≤ 122) = decide (n ≤ 122) := decide_eq_decide.2 (by omega)
  have e3 : decide ((48 : Int) ≤ (n : Int)) = decide (48 ≤ n) := decide_eq_decide.2 (by omega)
  have e4 : decide ((n : Int) ≤ 57) = decide (n ≤ 57) := decide_eq_decide.2 (by omega)
  generalize decide (97 ≤ n) = b1 at e1 ⊢
  generalize decide (n ≤ 122) = b2 at e2 ⊢
  generalize decide (48 ≤ n) = b3 at e3 ⊢
  generalize decide (n ≤ 57) = b4 at e4 ⊢
  clear h5 e
  rcases (show (b1 = true ∧ b2 = true) ∨ ((b1 = false ∨ b1 = true ∧ b2 = false) ∧ b3 = true ∧ b4 = true) ∨ ((b1 = false ∨ b1 = true ∧ b2 = false) ∧ (b3 = false ∨ b3 = true ∧ b4 = false)) from by cases b1 <;> cases b2 <;> cases b3 <;> cases b4 <;> simp) with ⟨rfl, rfl⟩ | ⟨rfl | ⟨rfl, rfl⟩, rfl, rfl⟩ | ⟨rfl | ⟨rfl, rfl⟩, rfl | ⟨rfl, rfl⟩⟩
  all_goals
    go_enter Tryd.func36, Tryd.ntmps36
    go_wp2_with (first | (go_at_call 44; with_reducible refine (HC.out _).mono ?_; rintro e w1 ⟨rfl, hw⟩; obtain rfl := hw))
    go_ret
    exact ⟨ret_b (by simp), rfl⟩
set_option maxHeartbeats 2000000 in
theorem refToken_any (s : ByteArray) (w : World) (hm : s.size ≤ maxLen) : Calls Tryd.prog 17 #[.string s] w fun e w' => e = .returned (.bool (nameS false s.data.toList)) ∧ w = w' := by
  unfold maxLen at hm
  go_enter Tryd.func17, Tryd.ntmps17
  go_wp2
  go_loop [3] (fun i => ∃ k : Nat, i = .int .i64 k ∧ k ≤ s.size ∧ (s.data.toList.take k).all (okB false) = true) (fun i => s.size - (intOf i).toNat)
  case atStart => exact ⟨0, rfl, Nat.zero_le _, rfl⟩
  case round =>
    obtain ⟨k, rfl, hk, hd⟩ := hrel
    have HD := Lib.hid hd
    clear hd
    by_cases hlt : k < s.size
    · have HTK := Lib.hid (take_byte s k hlt)
      have hw1 : IntKind.i64.wrap ((k : Int) + 1) = (k : Int) + 1 := IntWalk.i64_in _ (by omega)
      have HC := Lib.hid (fun W => sign_any s[k] W)
      have HNO := Lib.hid (nameS_no (g := false) s k hlt)
      have HOK := Lib.hid (show okB false s[k] = signB s[k] from by simp [okB])
      rw [HOK.out] at HNO
      obtain ⟨b, hb⟩ : ∃ b, signB s[k] = b := ⟨_, rfl⟩
      rw [hb] at HC HNO HOK
      clear hb
      cases b
      · have HR := Lib.hid (HNO.out rfl)
        go_wp2_with (first | (go_at_call 36; with_reducible refine (HC.out _).mono ?_; rintro e w1 ⟨rfl, hw⟩; obtain rfl := hw))
        go_ret
        exact ⟨ret_b HR.out.symm, rfl⟩
      · go_wp2_with (first | (go_at_call 36; with_reducible refine (HC.out _).mono ?_; rintro e w1 ⟨rfl, hw⟩; obtain rfl := hw))
        go_round
        case rel => exact ⟨k + 1, rfl, hlt, by rw [HTK.out, List.all_append, HD.out]; simp [HOK.out]⟩
        case measure => simp [intOf]; omega
    · obtain rfl : k = s.size := by omega
      have HD2 : Hid (s.data.toList.all (okB false) = true) := Lib.hid (by have := HD.out; rwa [List.take_of_length_le (by rw [← sz]; exact Nat.le_refl _)] at this)
      have HV : Hid (nameS false s.data.toList = (!s.toList.isEmpty && decide (s.size ≤ 64))) := Lib.hid (by unfold nameS; rw [HD2.out, tl, sz]; simp)
      have e1 : decide ((s.size : Int) ≤ 64) = decide (s.size ≤ 64) := decide_eq_decide.2 (by omega)
      generalize decide (s.size ≤ 64) = b1 at e1 HV
      by_cases hE : s.toList.isEmpty = true
      · have hE' : s.toList = [] := by simpa using hE
        rw [hE] at HV
        go_wp2_with fail
        go_ret
        exact ⟨ret_b (by rw [HV.out]; rfl), rfl⟩
      have hE : s.toList.isEmpty = false := by simpa using hE
      have hE' : ¬ s.toList = [] := by simpa using hE
      rw [hE] at HV
      go_wp2_with fail
      go_ret
      exact ⟨ret_b (by rw [HV.out]; simp), rfl⟩
theorem bsB_size (l : List Nat) : (bsB l).size = l.length := by show (l.map UInt8.ofNat).toArray.size = _; simp
def lowN (c : UInt8) : Nat := if 65 ≤ c.toNat ∧ c.toNat ≤ 90 then c.toNat + 32 else c.toNat
theorem lowN_lt (c : UInt8) : lowN c < 256 := by
  have := byte_lt c
  unfold lowN
  split <;> omega
theorem low_all : ∀ n : Fin 256, signB (UInt8.ofNat (lowN (UInt8.ofNat n.val))) = okB true (UInt8.ofNat n.val) := by decide +kernel
theorem low_sign (c : UInt8) : signB (UInt8.ofNat (lowN c)) = okB true c := by
  have := low_all ⟨c.toNat, byte_lt c⟩
  simpa using this
theorem low_name (s : ByteArray) : nameS false (bsB (s.data.toList.map lowN)).data.toList = nameS true s.data.toList := by
  have e : (bsB (s.data.toList.map lowN)).data.toList = s.data.toList.map (fun c => UInt8.ofNat (lowN c)) := by
    show ((s.data.toList.map lowN).map UInt8.ofNat).toArray.toList = _
    rw [List.map_map]; rfl
  rw [e]
  generalize s.data.toList = l
  unfold nameS
  rw [List.length_map, List.all_map]
  have h1 : (l.map fun c => UInt8.ofNat (lowN c)).isEmpty = l.isEmpty := by cases l <;> rfl
  have h2 : ((okB false) ∘ fun c => UInt8.ofNat (lowN c)) = okB true := by
    funext c
    show okB false (UInt8.ofNat (lowN c)) = _
    rw [← low_sign]
    simp [okB]
  rw [h1, h2]
set_option maxRecDepth 100000 in
set_option maxHeartbeats 4000000 in
theorem method_any (s : ByteArray) (w : World) (hm : s.size ≤ 1000000) : Calls Tryd.prog 31 #[.string s] w fun e w' => e = .returned (.bool (nameS true s.data.toList)) ∧ Below w.heap.size w w' := by
  obtain ⟨i0, hi0, hz0, hz1, hz2⟩ := info_parts u8_info
  have HI := Lib.hid hi0
  have HZ0 := Lib.hid hz0
  have HZ1 := Lib.hid hz1
  have HZ2 := Lib.hid hz2
  have HONE := Lib.hid (show ∀ n : Nat, ∀ u ∈ [Value.int .u8 (n : Int)], u.oneCell' = true from by intro n u hu; simp at hu; rw [hu]; rfl)
  clear hi0 hz0 hz1 hz2
  go_enter Tryd.func31, Tryd.ntmps31
  go_wp2_with fail
  go_loopw [3, 4] (fun ov ii wr => ∃ (k : Nat) (vv : Value), ov = vv ∧ ii = .int .i64 k ∧ k ≤ s.size ∧ OwnB wr w.heap.size vv ((s.data.toList.take k).map lowN) ∧ Below w.heap.size w wr) (fun _ ii _ => s.size - (intOf ii).toNat)
  case atStart => exact ⟨0, _, rfl, rfl, Nat.zero_le _, ⟨rfl, .inl ⟨rfl, rfl⟩⟩, Below.refl _ _⟩
  case round =>
    obtain ⟨k, v, hv, rfl, hk, hown, hb⟩ := hrel
    obtain rfl := hv.symm
    have HO := Lib.hid hown
    have HB := Lib.hid hb
    clear hown hb hv
    have HLK := Lib.hid (show ((s.data.toList.take k).map lowN).length = k from by rw [List.length_map, List.length_take, Nat.min_eq_left (by rw [← sz]; exact hk)])
    by_cases hlt : k < s.size
    · have hw1 : IntKind.i64.wrap ((k : Int) + 1) = (k : Int) + 1 := IntWalk.i64_in _ (by omega)
      have HTK := Lib.hid (show (s.data.toList.take (k + 1)).map lowN = (s.data.toList.take k).map lowN ++ [lowN s[k]] from by rw [take_byte s k hlt, List.map_append]; rfl)
      have hlow := lowN_lt s[k]
      have HLW : Hid (lowN s[k] = if 65 ≤ s[k].toNat ∧ s[k].toNat ≤ 90 then s[k].toNat + 32 else s[k].toNat) := Lib.hid rfl
      have hc := byte_lt s[k]
      generalize lowN s[k] = x at HTK hlow HLW
      generalize hsk : s[k].toNat = n at hc HLW
      have HSZ := Lib.hid (show w.heap.size ≤ (wr.alloc (.cells #[.int .u8 (x : Int)] 5)).heap.size from by have := HB.out.size; simp; omega)
      have e1 : decide ((65 : Int) ≤ (n : Int)) = decide (65 ≤ n) := decide_eq_decide.2 (by omega)
      have e2 : decide ((n : Int) ≤ 90) = decide (n ≤ 90) := decide_eq_decide.2 (by omega)
      have HX : Hid ((65 ≤ n ∧ n ≤ 90 ∧ x = n + 32) ∨ (65 ≤ n ∧ ¬ n ≤ 90 ∧ x = n) ∨ (¬ 65 ≤ n ∧ x = n)) := Lib.hid (by
        have := HLW.out
        split at this <;> omega)
      clear HLW
      rcases HX.out with ⟨h1, h2, h3⟩ | hx
      · have q1 : decide ((65 : Int) ≤ (n : Int)) = true := decide_eq_true (by omega)
        have q2 : decide ((n : Int) ≤ 90) = true := decide_eq_true (by omega)
        have hw8 : IntKind.u8.wrap ((n : Int) + 32) = (x : Int) := by rw [IntWalk.u8_in _ (by omega)]; omega
        clear h3 e1 e2 HX
        go_wp2_with (at_builtin; refine wpList_append_own_at _ rfl _ _ 60 rfl w.heap.size 5 i0 _ 1 1 Tryd.underlying60 HI.out HZ0.out HZ1.out HZ2.out rfl (by omega) _ _ _ rfl (World.ownsRow.alloc HO.out _) ⟨wr.heap.size, 0, none⟩ 1 1 [Value.int .u8 (x : Int)] rfl rfl (cells_new wr [Value.int .u8 (x : Int)] _) (HONE.out _) (by unfold maxLen; have := HLK.out; omega) (by have := HLK.out; omega) HSZ.out ?_; intro v7 w7 hown7 hg7 _ _; have HB7 := Lib.hid ((HB.out.alloc HB.out.size _).grown hg7 HSZ.out (fun q hq => (World.ownsRow.lt HO.out q hq).1)); have HO7 := Lib.hid (ownB_snoc hown7); clear hown7 hg7)
        go_roundw
        case rel => exact ⟨k + 1, _, rfl, rfl, hlt, by rw [HTK.out]; exact HO7.out, HB7.out⟩
        case measure => simp [intOf]; omega
      · have hxn : n = x := by omega
        subst hxn
        rcases hx with ⟨h1, h2, _⟩ | ⟨h1, _⟩
        all_goals
          have q1 : decide ((65 : Int) ≤ (n : Int)) = decide (65 ≤ n) := decide_eq_decide.2 (by omega)
          have q2 : decide ((n : Int) ≤ 90) = decide (n ≤ 90) := decide_eq_decide.2 (by omega)
          clear e1 e2 HX
          first | rw [decide_eq_true h1, decide_eq_false h2] at * | rw [decide_eq_false h1] at *
          go_wp2_with (at_builtin; refine wpList_append_own_at _ rfl _ _ 60 rfl w.heap.size 5 i0 _ 1 1 Tryd.underlying60 HI.out HZ0.out HZ1.out HZ2.out rfl (by omega) _ _ _ rfl (World.ownsRow.alloc HO.out _) ⟨wr.heap.size, 0, none⟩ 1 1 [Value.int .u8 (n : Int)] rfl rfl (cells_new wr [Value.int .u8 (n : Int)] _) (HONE.out _) (by unfold maxLen; have := HLK.out; omega) (by have := HLK.out; omega) HSZ.out ?_; intro v7 w7 hown7 hg7 _ _; have HB7 := Lib.hid ((HB.out.alloc HB.out.size _).grown hg7 HSZ.out (fun q hq => (World.ownsRow.lt HO.out q hq).1)); have HO7 := Lib.hid (ownB_snoc hown7); clear hown7 hg7)
          go_roundw
          case rel => exact ⟨k + 1, _, rfl, rfl, hlt, by rw [HTK.out]; exact HO7.out, HB7.out⟩
          case measure => simp [intOf]; omega
    · obtain rfl : k = s.size := by omega
      have HL : Hid (s.data.toList.take s.size = s.data.toList) := Lib.hid (List.take_of_length_le (by rw [← sz]; exact Nat.le_refl _))
      rw [HL.out] at HO HLK
      obtain ⟨oa, cap, rfl, hby, _⟩ := ownB_bytes HO.out
      rw [HLK.out]
      have hcv := conv_bytes wr oa s.size cap _ HLK.out hby (fun i hi => by
        rw [List.getD_eq_getElem?_getD, List.getElem?_map]
        rw [List.length_map] at hi
        rw [List.getElem?_eq_getElem hi]
        exact lowN_lt _)
      have HT := Lib.hid (refToken_any (bsB (s.data.toList.map lowN)) wr (by unfold maxLen; rw [bsB_size, HLK.out]; omega))
      rw [low_name] at HT
      clear hby
      generalize bsB (s.data.toList.map lowN) = S at hcv HT
      go_wp2_with (first | (go_at_call 17; with_reducible refine HT.out.mono ?_; rintro e w1 ⟨rfl, hw⟩; obtain rfl := hw))
      go_ret
      exact ⟨rfl, HB.out⟩
theorem blk_in (n : Nat) (c : UInt8) (h : c.toNat = n) : inS [32, 9] c = blkN n := by
  subst h
  unfold blkN
  rcases Nat.lt_or_ge c.toNat 256 with _ | h
  · have : ∀ m : Fin 256, inS [32, 9] (UInt8.ofNat m.val) = (decide (m.val = 32) || decide (m.val = 9)) := by decide +kernel
    have := this ⟨c.toNat, by assumption⟩
    simpa using this
  · have := byte_lt c; omega
set_option maxRecDepth 100000 in
set_option maxHeartbeats 4000000 in
theorem refValue_any (s : ByteArray) (w : World) (hm : s.size ≤ maxLen) :
    Calls Tryd.prog 33 #[.string s] w fun e w' => e = .returned (.bool (valS s.data.toList)) ∧ w = w' := by
  unfold maxLen at hm
  go_enter Tryd.func33, Tryd.ntmps33
  go_wp2
  go_loop [3] (fun i => ∃ k : Nat, i = .int .i64 k ∧ k ≤ s.size ∧ (s.data.toList.take k).all (fun c => !ctlN c.toNat) = true) (fun i => s.size - (intOf i).toNat)
  case atStart => exact ⟨0, rfl, Nat.zero_le _, rfl⟩
  case round =>
    obtain ⟨k, rfl, hk, hd⟩ := hrel
    have HD := Lib.hid hd
    clear hd
    by_cases hlt : k < s.size
    · have hc256 := byte_lt s[k]
      have HTK := Lib.hid (take_byte s k hlt)
      have HNO := Lib.hid (valS_no s k hlt)
      have hw1 : IntKind.i64.wrap ((k : Int) + 1) = (k : Int) + 1 := IntWalk.i64_in _ (by omega)
      have HCT : Hid (ctlN s[k].toNat = (decide (s[k].toNat = 0) || decide (s[k].toNat = 10) || decide (s[k].toNat = 13))) := Lib.hid rfl
      have e0 : ((s[k].toNat : Int) == 0) = decide (s[k].toNat = 0) := by rw [Bool.eq_iff_iff]; first | (simp; done) | (simp; omega)
      have e1 : ((s[k].toNat : Int) == 10) = decide (s[k].toNat = 10) := by rw [Bool.eq_iff_iff]; first | (simp; done) | (simp; omega)
      have e2 : ((s[k].toNat : Int) == 13) = decide (s[k].toNat = 13) := by rw [Bool.eq_iff_iff]; first | (simp; done) | (simp; omega)
      generalize decide (s[k].toNat = 0) = b0 at e0 HCT
      generalize decide (s[k].toNat = 10) = b1 at e1 HCT
      generalize decide (s[k].toNat = 13) = b2 at e2 HCT
      rcases (show b0 = true ∨ (b0 = false ∧ b1 = true) ∨ (b0 = false ∧ b1 = false ∧ b2 = true) ∨ (b0 = false ∧ b1 = false ∧ b2 = false) from by cases b0 <;> cases b1 <;> cases b2 <;> simp) with rfl | ⟨rfl, rfl⟩ | ⟨rfl, rfl, rfl⟩ | ⟨rfl, rfl, rfl⟩
      case inr.inr.inr =>
        go_wp2_with fail
        go_round
        case rel => exact ⟨k + 1, rfl, hlt, by
          rw [HTK.out, List.all_append, HD.out]
          simp [HCT.out]⟩
        case measure => simp [intOf]; omega
      all_goals
        have HV := Lib.hid (HNO.out (by rw [HCT.out]; simp))
        go_wp2_with fail
        go_ret
        exact ⟨ret_b HV.out.symm, rfl⟩
    · obtain rfl : k = s.size := by omega
      have HD2 : Hid (s.data.toList.all (fun c => !ctlN c.toNat) = true) := Lib.hid (by have := HD.out; rwa [List.take_of_length_le (by rw [← sz]; exact Nat.le_refl _)] at this)
      by_cases hE : s.toList.isEmpty = true
      · have HR : Hid (valS s.data.toList = true) := Lib.hid (by have := HD2.out; rw [tl] at hE; unfold valS; rw [this, hE]; rfl)
        have hE' : s.toList = [] := by simpa using hE
        go_wp2
        go_ret
        exact ⟨ret_b HR.out.symm, rfl⟩
      have hE : s.toList.isEmpty = false := by simpa using hE
      have hE' : ¬ s.toList = [] := by simpa using hE
      obtain ⟨m, hm1⟩ : ∃ m, s.size = m + 1 := ⟨s.size - 1, by
        have : s.size ≠ 0 := fun h => by have := (isEmpty_iff s).2 h; rw [this] at hE; cases hE
        omega⟩
      have HV := Lib.hid (valS_end s m hm1 HD2.out)
      have hpos : 0 < s.size := by omega
      have hm2 : m < s.size := by omega
      have hw1 : IntKind.i64.wrap ((s.size : Int) - 1) = (m : Int) := by rw [IntWalk.i64_in _ (by omega)]; omega
      have hw2 : (s.size : Int) - 1 = (m : Int) := by omega
      have HA := Lib.hid (fun W => in_any ⟨#[32, 9]⟩ (by decide) s[0] W)
      have HZ := Lib.hid (fun W => in_any ⟨#[32, 9]⟩ (by decide) s[m] W)
      have e9 : (ByteArray.mk #[32, 9]).data.toList = [32, 9] := rfl
      rw [e9, blk_in _ _ rfl] at HA HZ
      obtain ⟨b0, hb0⟩ : ∃ b, blkN s[0].toNat = b := ⟨_, rfl⟩
      obtain ⟨b1, hb1⟩ : ∃ b, blkN s[m].toNat = b := ⟨_, rfl⟩
      rw [hb0, hb1] at HV
      rw [hb0] at HA
      rw [hb1] at HZ
      clear hb0 hb1 e9
      cases b0 <;> cases b1
      all_goals
        go_wp2_with (first
          | (go_at_call 44; with_reducible refine (HA.out _).mono ?_; rintro e w' ⟨rfl, hw⟩; obtain rfl := hw)
          | (go_at_call 44; with_reducible refine (HZ.out _).mono ?_; rintro e w' ⟨rfl, hw⟩; obtain rfl := hw))
        go_ret
        exact ⟨ret_b HV.out.symm, rfl⟩
end Go.Proofs.YtecmccihldjicaaDoor
