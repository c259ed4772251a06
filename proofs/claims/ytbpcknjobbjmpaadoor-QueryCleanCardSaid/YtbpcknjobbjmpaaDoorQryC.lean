/- A text is decoded: query.Decode. -/
import Derived.Test.YtbpcknjobbjmpaaDoorQryB
import Derived.OwnWalk
namespace Go.Proofs.YtbpcknjobbjmpaaDoor
open Go.RowKit
set_option linter.unusedVariables false
set_option linter.unusedSimpArgs false

/-- What is read of the rest, behind what was read. -/
def decL (acc rest : List Nat) : List Nat × Nat :=
  match rest with
  | [] => (acc, 0)
  | c :: l => if c ≠ 37 then decL (acc ++ [c]) l else
    match l with
    | h :: d :: l' => if dgOk h && dgOk d then decL (acc ++ [dgN h * 16 + dgN d]) l' else ([], 4)
    | _ => ([], 3)
termination_by rest.length
decreasing_by all_goals (simp_wf; try omega)
theorem decL_nil (acc : List Nat) : decL acc [] = (acc, 0) := by rw [decL]
theorem decL_plain (acc : List Nat) (c : Nat) (l : List Nat) (h : c ≠ 37) : decL acc (c :: l) = decL (acc ++ [c]) l := by
  rcases l with _ | ⟨a, _ | ⟨b, l⟩⟩
  · (rw [decL_nil]; rw [decL] <;> simp [h]); rw [decL_nil]
  · rw [decL] <;> simp [h]
  · rw [decL] <;> simp [h]
theorem decL_code (acc : List Nat) (h d : Nat) (l : List Nat) : decL acc (37 :: h :: d :: l) = if dgOk h && dgOk d then decL (acc ++ [dgN h * 16 + dgN d]) l else ([], 4) := by rw [decL]; simp
theorem decL_cut0 (acc : List Nat) : decL acc [37] = ([], 3) := by rw [decL] <;> simp
theorem decL_cut1 (acc : List Nat) (h : Nat) : decL acc [37, h] = ([], 3) := by rw [decL] <;> simp
theorem bytesU_drop (s : ByteArray) (k : Nat) : bytesU (s.extract k s.size) = (bytesU s).drop k := by
  unfold bytesU
  rw [Lib.extract_to_end, List.map_drop]
theorem bytesU_cons (s : ByteArray) (h : 0 < s.size) : bytesU s = s[0].toNat :: (bytesU s).drop 1 := by
  have h1 := bytesU_at s 0 h
  cases hb : bytesU s with
  | nil => rw [hb] at h1; simp at h1
  | cons a l => rw [hb] at h1; simp at h1; subst h1; simp
theorem or_digits (h d : Nat) (h1 : h < 16) (h2 : d < 16) : bits BinOp.or IntKind.u8 ((h * 16 : Nat) : Int) (d : Int) = ((h * 16 + d : Nat) : Int) := by
  have : ∀ a b : Fin 16, bits BinOp.or IntKind.u8 ((a.val * 16 : Nat) : Int) (b.val : Int) = ((a.val * 16 + b.val : Nat) : Int) := by decide +kernel
  exact this ⟨h, h1⟩ ⟨d, h2⟩
def DecPost (s : ByteArray) (w : World) (e : Ending) (w' : World) : Prop :=
  e = .returned (.tuple #[.string (bsB (decL [] (bytesU s)).1), .int .i64 ((decL [] (bytesU s)).2 : Nat)]) ∧ Below w.heap.size w w'
set_option maxRecDepth 100000 in
set_option maxHeartbeats 8000000 in
theorem qdecode_any (s : ByteArray) (hs : s.size ≤ 1000000) (w : World) : Calls Tryd.prog 29 #[.string s] w (DecPost s w) := by
  obtain ⟨i0, hi0, hz0, hz1, hz2⟩ := info_parts u8_info
  have HI := Lib.hid hi0
  have HZ0 := Lib.hid hz0
  have HZ1 := Lib.hid hz1
  have HZ2 := Lib.hid hz2
  clear hi0 hz0 hz1 hz2
  unfold DecPost
  generalize hR : decL [] (bytesU s) = R
  have HR := Lib.hid hR
  clear hR
  go_enter Tryd.func29, Tryd.ntmps29
  go_wp2_with fail
  go_loopw [0, 4] (fun sv ov wr => ∃ (sb : ByteArray) (acc : List Nat) (vv : Value), ov = vv ∧ sv = .string sb ∧ acc.length + sb.size ≤ s.size ∧ (∀ x ∈ acc, x < 256) ∧ decL acc (bytesU sb) = R ∧ OwnB wr w.heap.size vv acc ∧ Below w.heap.size w wr) (fun sv _ _ => match sv with | .string b => b.size | _ => 0)
  case atStart => exact ⟨s, [], _, rfl, rfl, by simp, by simp, HR.out, World.ownsRow_nil _ _ _ _, Below.refl _ _⟩
  case round =>
    obtain ⟨sb, acc, v, hv, rfl, hln, h256, hdec, hown, hb⟩ := hrel
    obtain rfl := hv.symm
    have HO := Lib.hid hown
    have HB := Lib.hid hb
    have HD := Lib.hid hdec
    have H256 := Lib.hid h256
    clear hown hb hv hdec h256 HR
    by_cases hz : sb.size = 0
    · have hem : bytesU sb = [] := List.eq_nil_of_length_eq_zero (by rw [bytesU_len]; exact hz)
      have hse : sb.toList.isEmpty = true := by
        rw [List.isEmpty_iff, ← List.length_eq_zero_iff]
        rw [ByteArray.toList_eq]  
        rw [← sz]; exact hz
      rw [hem, decL_nil] at HD
      have HE := Lib.hid (show R = (acc, 0) from HD.out.symm)
      have hcv := owned_text HO.out H256.out
      have HN := Lib.hid (show bsB acc = bsB R.1 ∧ ((R.2 : Nat) : Int) = 0 from by rw [HE.out]; exact ⟨rfl, rfl⟩)
      clear HE HD
      go_wp2_with fail
      refine bodyPost_ret (v := .tuple #[.string (bsB acc), .int .i64 0]) (by simp [results, Tryd.results29, go_sem]) rfl ⟨by rw [HN.out.1, HN.out.2], HB.out⟩
    · have hpos : 0 < sb.size := by omega
      have hposI : (0 : Int) < (sb.size : Int) := by omega
      have hse : sb.toList.isEmpty = false := by
        cases hq : sb.toList.isEmpty with
        | false => rfl
        | true =>
          rw [List.isEmpty_iff, ← List.length_eq_zero_iff, ByteArray.toList_eq, ← sz] at hq
          omega
      rw [bytesU_cons sb hpos] at HD
      have hc256 := byte_lt sb[0]
      have hy0 : ∀ h, (sb[0]'h).toNat = sb[0].toNat := fun _ => rfl
      have hl1 : (1 : Int) ≤ (sb.size : Int) := by omega
      by_cases h37 : sb[0].toNat = 37
      · have q3 : ((sb[0].toNat : Int) != 37) = false := by rw [h37]; rfl
        rw [h37] at HD
        by_cases h3 : sb.size < 3
        · have q4 : decide ((sb.size : Int) < 3) = true := decide_eq_true (by omega)
          have HE := Lib.hid (show R = ([], 3) from by
            rw [← HD.out]
            have hlen : ((bytesU sb).drop 1).length ≤ 1 := by rw [List.length_drop, bytesU_len]; omega
            match hm : (bytesU sb).drop 1, hlen with
            | [], _ => exact decL_cut0 acc
            | [x], _ => exact decL_cut1 acc x)
          have HN := Lib.hid (show (ByteArray.mk #[]) = bsB R.1 ∧ ((R.2 : Nat) : Int) = 3 from by rw [HE.out]; exact ⟨rfl, rfl⟩)
          clear HE HD
          go_wp2_with fail
          refine bodyPost_ret (v := .tuple #[.string ⟨#[]⟩, .int .i64 3]) (by simp [results, Tryd.results29, go_sem]) rfl ⟨by rw [HN.out.1, HN.out.2], HB.out⟩
        · have q4 : decide ((sb.size : Int) < 3) = false := decide_eq_false (by omega)
          have e1 := bytesU_at sb 1 (by omega)
          have e2 := bytesU_at sb 2 (by omega)
          have hdr : (bytesU sb).drop 1 = sb[1].toNat :: sb[2].toNat :: (bytesU sb).drop 3 := by
            have a1 : (bytesU sb).drop 1 = sb[1].toNat :: (bytesU sb).drop 2 := by
              rw [List.drop_eq_getElem_cons (by rw [bytesU_len]; omega)]
              congr 1
              exact Option.some.inj ((List.getElem?_eq_getElem _).symm.trans e1)
            have a2 : (bytesU sb).drop 2 = sb[2].toNat :: (bytesU sb).drop 3 := by
              rw [List.drop_eq_getElem_cons (by rw [bytesU_len]; omega)]
              congr 1
              exact Option.some.inj ((List.getElem?_eq_getElem _).symm.trans e2)
            rw [a1, a2]
          rw [hdr, decL_code, ← bytesU_drop] at HD
          have hh := byte_lt sb[1]
          have hd := byte_lt sb[2]
          have hy1 : ∀ h, (sb[1]'h).toNat = sb[1].toNat := fun _ => rfl
          have hy2 : ∀ h, (sb[2]'h).toNat = sb[2].toNat := fun _ => rfl
          have hp1 : (1 : Int) < (sb.size : Int) := by omega
          have hp2 : (2 : Int) < (sb.size : Int) := by omega
          have hl3 : (3 : Int) ≤ (sb.size : Int) := by omega
          have hex : (sb.extract 3 sb.size).size = sb.size - 3 := by simp
          clear hdr e1 e2
          have hv1 := dgN_lt _ hh
          have hv2 := dgN_lt _ hd
          have C1 := Lib.hid (digit_any _ hh)
          have C2 := Lib.hid (digit_any _ hd)
          generalize dgN sb[1].toNat = h1 at *
          generalize dgN sb[2].toNat = h2 at *
          generalize dgOk sb[1].toNat = b1 at *
          generalize dgOk sb[2].toNat = b2 at *
          have hw1 : IntKind.u8.wrap ((h1 : Int) * 16) = (h1 : Int) * 16 := IntWalk.u8_in _ (by omega)
          have hor : bits BinOp.or IntKind.u8 ((h1 : Int) * 16) (h2 : Int) = ((h1 * 16 + h2 : Nat) : Int) := by have := or_digits h1 h2 hv1 hv2; rwa [show ((h1 * 16 : Nat) : Int) = (h1 : Int) * 16 from by omega] at this
          have hx16 : h1 * 16 + h2 < 256 := by omega
          generalize h1 * 16 + h2 = x at *
          by_cases hb12 : (b1 && b2) = true
          · rw [if_pos hb12] at HD
            obtain ⟨rfl, rfl⟩ : b1 = true ∧ b2 = true := by simpa using hb12
            have hc1 : ∀ u ∈ [Value.int .u8 (x : Int)], u.oneCell' = true := by intro u hu; simp at hu; subst hu; rfl
            have hc2 : acc.length + 1 ≤ maxLen := by unfold maxLen; omega
            have hc3 : (acc.length + 1) * 1 ≤ 140737488355328 := by omega
            go_wp2_with (first
              | (go_at_call 51; first
                  | ((with_reducible refine (C1.out _).mono ?_); rintro e w' ⟨rfl, hw⟩; obtain rfl := hw.symm; clear C1)
                  | ((with_reducible refine (C2.out _).mono ?_); rintro e w' ⟨rfl, hw⟩; obtain rfl := hw.symm; clear C2))
              | (at_builtin; refine wpList_append_own_at _ rfl _ _ 105 rfl w.heap.size 5 i0 _ 1 1 Tryd.underlying105 HI.out HZ0.out HZ1.out HZ2.out rfl (by omega) v _ _ rfl (World.ownsRow.alloc HO.out _) ⟨wr.heap.size, 0, none⟩ 1 1 [Value.int .u8 (x : Int)] rfl rfl (cells_new wr [Value.int .u8 (x : Int)] _) hc1 hc2 hc3 (by have := HB.out.size; simp; omega) ?_; intro v3 w3 hown3 hg3 _ _; clear hc1 hc2 hc3))
            have B3 := Lib.hid ((HB.out.alloc HB.out.size _).grown hg3 (by have := HB.out.size; simp; omega) (fun q hq => (World.ownsRow.lt HO.out q hq).1))
            have HO3 := Lib.hid (ownB_snoc hown3)
            clear hg3 hown3
            refine ⟨⟨sb.extract 3 sb.size, acc ++ [x], _, rfl, rfl, by rw [List.length_append, hex]; simp; omega, fun y hy => ?_, HD.out, HO3.out, B3.out⟩, ?_⟩
            · rcases List.mem_append.1 hy with h | h
              · exact H256.out y h
              · simp at h; omega
            · simp only [hex]; omega
          · rw [if_neg hb12] at HD
            have HN := Lib.hid (show (ByteArray.mk #[]) = bsB R.1 ∧ ((R.2 : Nat) : Int) = 4 from by rw [← HD.out]; exact ⟨rfl, rfl⟩)
            clear HD
            have hno : b1 = false ∨ (b1 = true ∧ b2 = false) := by cases b1 <;> cases b2 <;> simp_all
            rcases hno with rfl | ⟨rfl, rfl⟩
            all_goals
              go_wp2_with (first
                | (go_at_call 51; first
                    | ((with_reducible refine (C1.out _).mono ?_); rintro e w' ⟨rfl, hw⟩; obtain rfl := hw.symm; clear C1)
                    | ((with_reducible refine (C2.out _).mono ?_); rintro e w' ⟨rfl, hw⟩; obtain rfl := hw.symm; clear C2)))
              refine bodyPost_ret (v := .tuple #[.string ⟨#[]⟩, .int .i64 4]) (by simp [results, Tryd.results29, go_sem]) rfl ⟨by rw [HN.out.1, HN.out.2], HB.out⟩
      · have q3 : ((sb[0].toNat : Int) != 37) = true := by simp; omega
        rw [decL_plain _ _ _ h37, ← bytesU_drop] at HD
        have hex : (sb.extract 1 sb.size).size = sb.size - 1 := by simp
        have hc1 : ∀ u ∈ [Value.int .u8 ((sb[0].toNat : Nat) : Int)], u.oneCell' = true := by intro u hu; simp at hu; subst hu; rfl
        have hc2 : acc.length + 1 ≤ maxLen := by unfold maxLen; omega
        have hc3 : (acc.length + 1) * 1 ≤ 140737488355328 := by omega
        have hc4 := HB.out.size
        go_wp2_with (at_builtin; (refine wpList_append_own_at _ rfl _ _ 105 rfl w.heap.size 5 i0 _ 1 1 Tryd.underlying105 HI.out HZ0.out HZ1.out HZ2.out rfl (by omega) v _ _ rfl (World.ownsRow.alloc HO.out _) ⟨wr.heap.size, 0, none⟩ 1 1 [Value.int .u8 ((sb[0].toNat : Nat) : Int)] rfl rfl (cells_new wr [Value.int .u8 ((sb[0].toNat : Nat) : Int)] _) hc1 hc2 hc3 (by simp; omega) ?_); intro v3 w3 hown3 hg3 _ _; clear hc1 hc2 hc3 hc4)
        have B3 := Lib.hid ((HB.out.alloc HB.out.size _).grown hg3 (by have := HB.out.size; simp; omega) (fun q hq => (World.ownsRow.lt HO.out q hq).1))
        have HO3 := Lib.hid (ownB_snoc hown3)
        clear hg3 hown3
        refine ⟨⟨sb.extract 1 sb.size, acc ++ [sb[0].toNat], _, rfl, rfl, by rw [List.length_append, hex]; simp; omega, fun x hx => ?_, HD.out, HO3.out, B3.out⟩, ?_⟩
        · rcases List.mem_append.1 hx with h | h
          · exact H256.out x h
          · simp at h; omega
        · simp only [hex]; omega
end Go.Proofs.YtbpcknjobbjmpaaDoor
