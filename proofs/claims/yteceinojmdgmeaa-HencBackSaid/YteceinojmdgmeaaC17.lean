/- RepK · GrtP: joined by a program, for a claim has at most 60 files. -/
import Derived.Test.YteceinojmdgmeaaC16
import Derived.Test.YteceinojmdgmeaaC15
/- repr.All: the walk. -/
namespace Go.Proofs.Yteceinojmdgmeaa
open Go.RowKit
set_option linter.unusedVariables false
set_option linter.unusedSimpArgs false

def AllPost (bs : List Nat) (w : World) (e : Ending) (w' : World) : Prop :=
  ∃ v, e = .returned (.tuple #[v, .int .i64 ((allG bs).2 : Nat)]) ∧ OwnI w' w.heap.size v (allG bs).1 ∧ Below w.heap.size w w'
def lenV : Value → Nat
  | .slice _ n _ => n
  | _ => 0
set_option maxRecDepth 100000 in
set_option maxHeartbeats 4000000 in
theorem all_any (oa : Option Addr) (n cap : Nat) (bs : List Nat) (hn : bs.length = n) (hnc : n ≤ cap) (hn100 : n ≤ 1000000) (w : World) (hby : BytesN w oa bs) (hb256 : ∀ i, i < bs.length → bs.getD i 0 < 256) :
    Calls Try.prog 53 #[.slice oa n cap] w (AllPost bs w) := by
  have HN := Lib.hid hn
  have HBY := Lib.hid hby
  have H256 := Lib.hid hb256
  have HAG := Lib.hid (show allG bs = allA n [] bs from by rw [← hn]; rfl)
  obtain ⟨i0, hi0, hz0, hz1, hz2⟩ := info_parts item_info
  have HI := Lib.hid hi0
  have HZ0 := Lib.hid hz0
  have HZ1 := Lib.hid hz1
  have HZ2 := Lib.hid hz2
  clear hi0 hz0 hz1 hz2 hn hby hb256
  go_enter Try.func53, Try.ntmps53
  go_wp2_with fail
  go_loopw [0, 4] (fun bv ov wr => ∃ (oa' : Option Addr) (ln cp f : Nat) (R : List Nat) (L : List Itm) (vv : Value), bv = .slice oa' ln cp ∧ ov = vv ∧ R.length = ln ∧ L.length + ln ≤ n ∧ ln ≤ cp ∧ ln ≤ f ∧ BytesN w oa' R ∧ (∀ i, i < R.length → R.getD i 0 < 256) ∧ allG bs = allA f L R ∧ OwnI wr w.heap.size vv L ∧ Below w.heap.size w wr) (fun bv _ _ => lenV bv)
  case atStart => exact ⟨oa, n, cap, n, bs, [], _, rfl, rfl, HN.out, by simp, hnc, Nat.le_refl _, HBY.out, H256.out, HAG.out, OwnI.nil _ _, Below.refl _ _⟩
  case round =>
    obtain ⟨oa', ln, cp, f, R, L, vv, rfl, hvv, hR, hLn, hcp, hf, hby, h256, hag, hown, hb⟩ := hrel
    obtain rfl := hvv.symm
    have HRL := Lib.hid hR
    have HBR := Lib.hid hby
    have HR256 := Lib.hid h256
    have HAR := Lib.hid hag
    have HO := Lib.hid hown
    have HB := Lib.hid hb
    clear hR hby h256 hag hown hb hvv HBY H256 HAG HN
    by_cases hpos : 0 < ln
    · have hpi : (0 : Int) < (ln : Int) := by omega
      obtain ⟨f, rfl⟩ : ∃ f', f = f' + 1 := ⟨f - 1, by omega⟩
      have HST := Lib.hid (HAR.out.trans (allA_step f L R (by intro h; have := HRL.out; rw [h] at this; simp at this; omega)))
      have HOK := Lib.hid (itemG_ok R)
      have HGI := Lib.hid (show ∀ W, BytesN W oa' R → Calls Try.prog 79 #[.slice oa' ln cp] W fun e w' => e = .returned (.tuple #[.agg #[.int .u8 (((itemG R).1.kind : Nat) : Int), .int .i64 (itemG R).1.index, .string (itemG R).1.name, .string (itemG R).1.value], .int .i64 ((itemG R).2.1 : Nat), .int .i64 ((itemG R).2.2 : Nat)]) ∧ Below W.heap.size W w' from fun W hW => rget_any oa' ln cp R HRL.out hcp (by omega) W hW HR256.out)
      rw [HRL.out] at HOK
      generalize itemG R = g at HST HOK HGI
      obtain ⟨⟨kd, ix, nm, vl⟩, k, er⟩ := g
      simp only at HST HOK HGI
      go_wp2_with fail
      refine (HGI.out _ (HBR.out.below HB.out)).mono ?_
      rintro e w1 ⟨rfl, hb⟩
      have HO1 := Lib.hid (HO.out.step hb)
      have HB1 := Lib.hid (HB.out.trans (hb.mono HB.out.size))
      have HX := Lib.hid (IRow.new w1 kd ix nm vl)
      have HO2 := Lib.hid (HO1.out.step ((Below.refl w1.heap.size w1).alloc (Nat.le_refl _) (.cells #[.int .u8 (kd : Int), .int .i64 ix, .string nm, .string vl] 49)))
      have HB2 := Lib.hid (HB1.out.alloc HB1.out.size (.cells #[.int .u8 (kd : Int), .int .i64 ix, .string nm, .string vl] 49))
      clear hb HB HO HGI
      by_cases her : er = 0
      · subst her
        obtain ⟨hk1, hk2⟩ := HOK.out rfl
        have HST2 := Lib.hid (HST.out.trans (if_neg (fun h => h rfl)))
        go_upto_region 6 with fail
        generalize w1.alloc (.cells #[.int .u8 (kd : Int), .int .i64 ix, .string nm, .string vl] 49) = w2 at HX HO2 HB2 ⊢
        have x0 := HX.out.c0
        have x1 := HX.out.c1
        have x2 := HX.out.c2
        have x3 := HX.out.c3
        have HONE := Lib.hid (show ∀ u ∈ [Value.int .u8 (kd : Int), .int .i64 ix, .string nm, .string vl], u.oneCell' = true from by intro u hu; simp at hu; rcases hu with rfl | rfl | rfl | rfl <;> rfl)
        have HSZ := Lib.hid (HB2.out.alloc HB2.out.size (.cells #[.int .u8 (kd : Int), .int .i64 ix, .string nm, .string vl] 49)).size
        have hx1 : (0 : Int) ≤ (k : Int) := by omega
        have hx2 : (k : Int) ≤ (ln : Int) := by omega
        have hx3 : (ln : Int) ≤ (cp : Int) := by omega
        have HRD := Lib.hid (show (R.drop k).length = ln - k from by rw [List.length_drop, HRL.out])
        have HRD256 := Lib.hid (show ∀ i, i < (R.drop k).length → (R.drop k).getD i 0 < 256 from fun i hi => by
          rw [List.length_drop] at hi
          have := HR256.out (k + i) (by omega)
          simp only [List.getD_eq_getElem?_getD] at this ⊢
          rw [List.getElem?_drop]
          exact this)
        go_wp2_with (at_builtin; refine wpList_append_own_at _ rfl _ _ 84 rfl w.heap.size 49 i0 _ 4 48 Try.underlying84 HI.out HZ0.out HZ1.out HZ2.out rfl (by omega) vv _ _ rfl (World.ownsRow.alloc HO2.out _) ⟨w2.heap.size, 0, none⟩ 1 1 [Value.int .u8 (kd : Int), .int .i64 ix, .string nm, .string vl] rfl rfl (cells_new w2 [Value.int .u8 (kd : Int), .int .i64 ix, .string nm, .string vl] _) HONE.out (by unfold maxLen; omega) (by omega) HSZ.out ?_; intro v3 w3 hown3 hg3 _ _; have HO3 := Lib.hid (OwnI.app (x := ⟨kd, ix, nm, vl⟩) hown3); have HB3 := Lib.hid ((HB2.out.alloc HB2.out.size _).grown hg3 HSZ.out (fun q hq => (World.ownsRow.lt HO2.out q hq).1)); clear hown3 hg3)
        have HBD : BytesN w (if cp = k then oa' else Option.map (fun x => x.add k) oa') (R.drop k) := by
          by_cases hck : cp = k
          · intro i hi
            rw [HRD.out] at hi
            omega
          · rw [if_neg hck]
            obtain ⟨b, o, rfl, _⟩ := HBR.out.at (i := 0) (by rw [HRL.out]; exact hpos)
            have := HBR.out.part k (ln - k)
            rw [List.take_of_length_le (by rw [HRD.out]; exact Nat.le_refl _)] at this
            have e : Option.map (fun x => x.add k) (some (⟨b, o, none⟩ : Addr)) = some ⟨b, o + k, none⟩ := by simp [Addr.add]; omega
            rw [e]
            exact this
        exact ⟨⟨_, ln - k, cp - k, f, R.drop k, L ++ [⟨kd, ix, nm, vl⟩], v3, rfl, rfl, HRD.out, by simp; omega, by omega, by omega, HBD, HRD256.out, HST2.out, HO3.out, HB3.out⟩, by simp only [lenV]; omega⟩
      · have q0 : ((er : Int) != 0) = true := by simp; omega
        have HE := Lib.hid (HST.out.trans (if_pos her))
        go_wp2_with fail
        refine bodyPost_ret (v := .tuple #[.slice none 0 0, .int .i64 (er : Int)]) (by simp [results, Try.results53, go_sem]) rfl ⟨_, by rw [HE.out], by rw [HE.out]; exact OwnI.nil _ _, HB2.out⟩
    · obtain rfl : ln = 0 := by omega
      have hR0 : R = [] := List.length_eq_zero_iff.1 HRL.out
      have HE := Lib.hid (show allG bs = (L, 0) from by rw [HAR.out, hR0, allA_nil])
      go_wp2_with fail
      refine bodyPost_ret (v := .tuple #[vv, .int .i64 0]) (by simp [results, Try.results53, go_sem]) rfl ⟨_, by rw [HE.out]; rfl, by rw [HE.out]; exact HO.out, HB.out⟩
end Go.Proofs.Yteceinojmdgmeaa


/- Texts of up to 100 bytes: an item's bytes are got as the item. -/
namespace Go.Proofs.Yteceinojmdgmeaa
open Go.RowKit
set_option linter.unusedVariables false
set_option linter.unusedSimpArgs false

theorem putN_head (f k n : Nat) : ∃ x l, putN f k n = (restN f k + x) :: l ∧ x ≤ 2 ^ k - 1 := by
  unfold putN
  by_cases h : n < 2 ^ k - 1
  · rw [if_pos h]; exact ⟨_, _, rfl, by omega⟩
  · rw [if_neg h]; exact ⟨_, _, rfl, by omega⟩
theorem putN_len6 (f k n : Nat) (hk : K4 k) (hn : n ≤ 268435455) : (putN f k n).length ≤ 6 := by
  unfold putN
  split
  · simp
  · have := groupsN_le 3 (n - (2 ^ k - 1)) (by omega)
    simp only [List.length_cons]
    omega
theorem putN_bytes (f k n : Nat) (hf : f < 256) (hk : K4 k) : ∀ x ∈ putN f k n, x < 256 := by
  intro x hx
  unfold putN at hx
  have hr := fun y hy => (or_rest f k y hf hk hy).2
  split at hx
  · simp at hx; subst hx; exact hr _ (by omega)
  · rcases List.mem_cons.1 hx with rfl | h
    · exact hr _ (Nat.le_refl _)
    · exact groupsN_byte _ x h
theorem kind_head (k : Nat) (hk : k ≤ 4) (x : Nat) (hx : x ≤ 2 ^ formB k - 1) : kindN (restN (formF k) (formB k) + x) = k := by
  have h0 : ∀ x, x ≤ 127 → kindN (restN (formF 0) (formB 0) + x) = 0 := by decide +kernel
  have h1 : ∀ x, x ≤ 63 → kindN (restN (formF 1) (formB 1) + x) = 1 := by decide +kernel
  have h2 : ∀ x, x ≤ 15 → kindN (restN (formF 2) (formB 2) + x) = 2 := by decide +kernel
  have h3 : ∀ x, x ≤ 15 → kindN (restN (formF 3) (formB 3) + x) = 3 := by decide +kernel
  have h4 : ∀ x, x ≤ 31 → kindN (restN (formF 4) (formB 4) + x) = 4 := by decide +kernel
  rcases (show k = 0 ∨ k = 1 ∨ k = 2 ∨ k = 3 ∨ k = 4 from by omega) with rfl | rfl | rfl | rfl | rfl
  · exact h0 x hx
  · exact h1 x hx
  · exact h2 x hx
  · exact h3 x hx
  · exact h4 x hx
theorem bsB_bytes (s : ByteArray) : bsB (bytesU s) = s := by
  unfold bsB bytesU
  rw [List.map_map]
  have : (UInt8.ofNat ∘ UInt8.toNat) = id := by funext x; simp
  rw [this, List.map_id]
theorem sizeL_100 (s : ByteArray) (h : s.size ≤ 100) : sizeL s.data.toList ≤ 500 := by
  have h1 := textBits_len s.data.toList
  have h2 := textBits_le s.data.toList
  have h3 : s.data.toList.length = s.size := by rw [Array.length_toList]; rfl
  unfold sizeL
  omega
theorem textN_cases (s : ByteArray) : (textN s = putN 128 7 (sizeL s.data.toList) ++ encL s.data.toList ∧ (putN 0 7 (sizeL s.data.toList)).length + sizeL s.data.toList < (putN 0 7 s.size).length + s.size) ∨ textN s = putN 0 7 s.size ++ bytesU s := by
  unfold textN
  split
  · rename_i h; exact .inl ⟨rfl, h⟩
  · exact .inr rfl
theorem putN_len_f (f g k n : Nat) : (putN f k n).length = (putN g k n).length := by unfold putN; split <;> simp
theorem put0_100 (n : Nat) (h : n ≤ 100) : putN 0 7 n = [n] := by
  unfold putN
  rw [if_pos (by omega)]
  simp [restN]
theorem textN_len100 (s : ByteArray) (h : s.size ≤ 100) : (textN s).length ≤ 1 + s.size := by
  have hp := put0_100 s.size h
  rcases textN_cases s with ⟨e, hlt⟩ | e
  · rw [e, List.length_append, encL_len, putN_len_f 128 0]
    rw [hp] at hlt
    simp at hlt
    omega
  · rw [e, hp, List.length_append, bytesU_len]
    simp
theorem textN_bytes (s : ByteArray) : ∀ x ∈ textN s, x < 256 := by
  intro x hx
  rcases textN_cases s with ⟨e, _⟩ | e
  · rw [e] at hx
    rcases List.mem_append.1 hx with h | h
    · exact putN_bytes 128 7 _ (by omega) (by unfold K4; decide) x h
    · exact encL_byte _ x h
  · rw [e] at hx
    rcases List.mem_append.1 hx with h | h
    · exact putN_bytes 0 7 _ (by omega) (by unfold K4; decide) x h
    · unfold bytesU at h
      obtain ⟨u, _, rfl⟩ := List.mem_map.1 h
      exact u.toNat_lt
theorem drop_take_mid (a b c : List Nat) : ((a ++ b ++ c).drop a.length).take b.length = b := by
  rw [List.append_assoc, List.drop_left, List.take_left]
/-- A text's bytes, and whatever comes behind, are got as the text. -/
theorem textG_put (s : ByteArray) (h : s.size ≤ 100) (r : List Nat) : textG (textN s ++ r) = (s, (textN s).length, 0) := by
  rcases textN_cases s with ⟨e, _⟩ | e
  · have hz := sizeL_100 s h
    obtain ⟨x, l, he, _⟩ := putN_head 128 7 (sizeL s.data.toList)
    have hg := getN_put 128 7 (sizeL s.data.toList) (by unfold K4; decide) (by omega) (encL s.data.toList ++ r)
    rw [← List.append_assoc] at hg
    have hd := drop_take_mid (putN 128 7 (sizeL s.data.toList)) (encL s.data.toList) r
    rw [encL_len] at hd
    unfold textG
    rw [e, hg]
    simp only
    rw [if_neg (by simp), if_neg (by omega), if_neg (by simp only [List.length_append, encL_len]; omega), if_neg (by rw [he]; simp [restN]), hd, dec_enc]
    simp only [List.length_append, encL_len]
  · have hp := put0_100 s.size h
    have hg := getN_put 0 7 s.size (by unfold K4; decide) (by omega) (bytesU s ++ r)
    rw [← List.append_assoc] at hg
    have hd := drop_take_mid (putN 0 7 s.size) (bytesU s) r
    rw [bytesU_len] at hd
    unfold textG
    rw [e, hg]
    simp only
    rw [if_neg (by simp), if_neg (by omega), if_neg (by simp only [List.length_append, bytesU_len]; omega), if_pos (by rw [hp]; simp; omega), hd, bsB_bytes]
    simp only [List.length_append, bytesU_len]
theorem itemG_eq (bs : List Nat) (h : bs ≠ []) : itemG bs = if (getN bs (formB (kindN (bs.getD 0 0)))).2.2 ≠ 0 then (Itm.zero, 0, (getN bs (formB (kindN (bs.getD 0 0)))).2.2)
    else if kindN (bs.getD 0 0) = 0 ∧ (getN bs (formB (kindN (bs.getD 0 0)))).1 = 0 then (Itm.zero, 0, 4)
    else goParts bs (partsOf (kindN (bs.getD 0 0)) (getN bs (formB (kindN (bs.getD 0 0)))).1) ⟨kindN (bs.getD 0 0), ((getN bs (formB (kindN (bs.getD 0 0)))).1 : Nat), ByteArray.empty, ByteArray.empty⟩ (getN bs (formB (kindN (bs.getD 0 0)))).2.1 := by
  cases bs with
  | nil => exact absurd rfl h
  | cons b l => rfl
theorem empty_of {s : ByteArray} (h : s.toList.isEmpty = true) : s = ByteArray.empty := by
  by_cases he : s = ByteArray.empty
  · exact he
  · have h1 := toList_ne he
    have h2 : s.toList = [] := by simpa using h
    have h3 : ByteArray.empty.toList = [] := by decide +kernel
    rw [h2, h3] at h1
    cases h1
theorem chk_facts {x : Itm} (h : chkI x = 0) : x.kind ≤ 4 ∧ 0 ≤ x.index ∧ x.index ≤ 268435455 ∧ ¬ (x.kind = 0 ∧ x.index = 0) ∧ extraI x = false := by
  unfold chkI at h
  split at h
  · omega
  split at h
  · omega
  split at h
  · omega
  rename_i h1 h2 h3
  refine ⟨by omega, by omega, by omega, by omega, by simpa using h3⟩
/-- An item's bytes, and whatever comes behind, are got as the item. -/
theorem itemG_put (x : Itm) (hc : chkI x = 0) (hn : x.name.size ≤ 100) (hv : x.value.size ≤ 100) (r : List Nat) : itemG (itemN x ++ r) = (x, (itemN x).length, 0) := by
  obtain ⟨hk, hi0, hi1, hk0, hex⟩ := chk_facts hc
  obtain ⟨k, i, nm, vl⟩ := x
  simp only at hk hi0 hi1 hk0 hn hv
  obtain ⟨n, rfl⟩ : ∃ n : Nat, i = n := ⟨i.toNat, by omega⟩
  have hkk := (form_k4 k hk).2
  obtain ⟨y, l, he, hy⟩ := putN_head (formF k) (formB k) n
  have hkh := kind_head k hk y hy
  unfold itemN
  simp only [Int.toNat_natCast]
  generalize hT : (if litK k = true then (if (n : Int) = 0 then textN nm else []) ++ textN vl else []) = T
  have hb : (putN (formF k) (formB k) n ++ T ++ r).getD 0 0 = restN (formF k) (formB k) + y := by rw [he]; rfl
  have hg := getN_put (formF k) (formB k) n hkk (by omega) (T ++ r)
  rw [← List.append_assoc] at hg
  rw [itemG_eq _ (by rw [he]; simp), hb, hkh, hg]
  simp only
  rw [if_neg (by simp), if_neg (fun h => hk0 ⟨h.1, by omega⟩)]
  have hdr : (putN (formF k) (formB k) n ++ T ++ r).drop (putN (formF k) (formB k) n).length = T ++ r := by rw [List.append_assoc, List.drop_left]
  unfold extraI at hex
  simp only at hex
  unfold partsOf
  cases hl : litK k
  · rw [hl] at hex hT
    simp at hex hT
    subst hT
    rw [if_neg (by simp)]
    unfold goParts
    rw [empty_of (s := nm) (by simpa using hex.1), empty_of (s := vl) (by simpa using hex.2)]
    simp
  · rw [hl] at hex hT
    simp only [if_true] at hex hT
    rw [if_pos rfl]
    by_cases hn0 : n = 0
    · subst hn0
      simp only [Int.natCast_zero, if_true] at hT ⊢
      subst hT
      unfold goParts
      rw [hdr, List.append_assoc, textG_put nm hn]
      simp only
      rw [if_neg (by simp)]
      have hdr2 : (putN (formF k) (formB k) 0 ++ (textN nm ++ textN vl) ++ r).drop ((putN (formF k) (formB k) 0).length + (textN nm).length) = textN vl ++ r := by
        rw [show putN (formF k) (formB k) 0 ++ (textN nm ++ textN vl) ++ r = (putN (formF k) (formB k) 0 ++ textN nm) ++ (textN vl ++ r) from by simp, ← List.length_append, List.drop_left]
      unfold goParts
      rw [hdr2, textG_put vl hv]
      simp only
      rw [if_neg (by simp)]
      unfold goParts
      simp [Itm.put]
      omega
    · rw [if_neg (by omega)] at hT
      rw [if_neg hn0]
      simp only [List.nil_append] at hT
      subst hT
      have hnm : nm = ByteArray.empty := empty_of (by
        have : decide ((0 : Int) < (n : Int)) = true := decide_eq_true (by omega)
        rw [this] at hex
        simpa using hex)
      unfold goParts
      rw [hdr, textG_put vl hv]
      simp only
      rw [if_neg (by simp)]
      unfold goParts
      rw [hnm]
      simp [Itm.put]
theorem itemN_pos (x : Itm) : itemN x ≠ [] := by
  unfold itemN
  obtain ⟨y, l, he, _⟩ := putN_head (formF x.kind) (formB x.kind) x.index.toNat
  rw [he]
  simp
theorem itemN_len100 (x : Itm) (hc : chkI x = 0) (hn : x.name.size ≤ 100) (hv : x.value.size ≤ 100) : (itemN x).length ≤ 6 + 1 + x.name.size + 1 + x.value.size := by
  obtain ⟨hk, hi0, hi1, hk0, hex⟩ := chk_facts hc
  have h1 := putN_len6 (formF x.kind) (formB x.kind) x.index.toNat (form_k4 x.kind hk).2 (by omega)
  have h2 := textN_len100 x.name hn
  have h3 := textN_len100 x.value hv
  unfold itemN
  rw [List.length_append]
  split
  · split
    · rw [List.length_append]; omega
    · rw [List.length_append]; simp; omega
  · simp; omega
theorem itemN_bytes (x : Itm) (hc : chkI x = 0) : ∀ y ∈ itemN x, y < 256 := by
  obtain ⟨hk, _⟩ := chk_facts hc
  have hf := form_k4 x.kind hk
  intro y hy
  unfold itemN at hy
  rcases List.mem_append.1 hy with h | h
  · exact putN_bytes _ _ _ hf.1 hf.2 y h
  · split at h
    · rcases List.mem_append.1 h with h | h
      · split at h
        · exact textN_bytes _ y h
        · simp at h
      · exact textN_bytes _ y h
    · simp at h
end Go.Proofs.Yteceinojmdgmeaa

