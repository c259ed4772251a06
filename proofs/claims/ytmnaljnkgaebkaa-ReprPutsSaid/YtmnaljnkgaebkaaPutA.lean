/- ReprPuts: the walk. -/
import Derived.Test.YtmnaljnkgaebkaaDocE
import Derived.Test.YtmnaljnkgaebkaaRepN
import Derived.Deep.RegionHeld
namespace Go.Proofs.Ytmnaljnkgaebkaa
open Go.RowKit
set_option linter.unusedVariables false
set_option linter.unusedSimpArgs false

/-- A value that is the text A once converted, in every world that keeps what is there. -/
def CvS (v : Value) (A : ByteArray) (w : World) : Prop := ∀ W, Below w.heap.size w W → (convert 28 9 v).run Try.prog W = .ok (.string A) W
structure Fah (B : Nat) (w W : World) : Prop where
  below : Below B w W
  base : B ≤ W.heap.size
theorem Fah.step {B : Nat} {w W W' : World} (hb : Below W.heap.size W W') (h : Fah B w W) : Fah B w W' := ⟨h.below.trans (hb.mono h.base), Nat.le_trans h.base hb.size⟩
theorem Fah.drew {B : Nat} {w W : World} (h : Fah B w W) : Fah B w W.drew := ⟨h.below.drew, h.base⟩
theorem cvs_own {w : World} {B : Nat} {v : Value} {l : List Nat} (h : OwnB w B v l) (hl : ∀ x ∈ l, x < 256) : CvS v (bsB l) w := fun W hb => by
  obtain ⟨oa, cap, rfl, hby, _⟩ := ownB_bytes h
  exact conv_bytes W oa _ cap l rfl (hby.below hb) (fun i hi => by rw [List.getD_eq_getElem?_getD, List.getElem?_eq_getElem hi]; exact hl _ (List.getElem_mem hi))
theorem cvs_none (w : World) : CvS (.slice none 0 0) (bsB []) w := fun W hb => conv_bytes W none 0 0 [] rfl (fun i hi => by simp at hi) (fun i hi => by simp at hi)
theorem textN_bytes2 (s : ByteArray) : ∀ x ∈ textN s, x < 256 := by
  have put : ∀ f n, f < 256 → ∀ x ∈ putN f 7 n, x < 256 := by
    intro f n hf x hx
    unfold putN at hx
    have hr := fun y hy => (or_rest f 7 y hf (by unfold K4; decide) hy).2
    split at hx
    · simp at hx; subst hx; exact hr _ (by omega)
    · rcases List.mem_cons.1 hx with rfl | h
      · exact hr _ (Nat.le_refl _)
      · exact groupsN_byte _ x h
  intro x hx
  unfold textN at hx
  split at hx
  · rcases List.mem_append.1 hx with h | h
    · exact put 128 _ (by omega) x h
    · exact encL_byte _ x h
  · rcases List.mem_append.1 hx with h | h
    · exact put 0 _ (by omega) x h
    · unfold bytesU at h
      obtain ⟨u, _, rfl⟩ := List.mem_map.1 h
      exact u.toNat_lt
theorem itemN_bytes2 (x : Itm) (hk : x.kind ≤ 4) : ∀ y ∈ itemN x, y < 256 := by
  have hf := form_k4 x.kind hk
  intro y hy
  unfold itemN at hy
  rcases List.mem_append.1 hy with h | h
  · unfold putN at h
    have hr := fun y hy => (or_rest (formF x.kind) (formB x.kind) y hf.1 hf.2 hy).2
    split at h
    · simp at h; subst h; exact hr _ (by omega)
    · rcases List.mem_cons.1 h with rfl | h
      · exact hr _ (Nat.le_refl _)
      · exact groupsN_byte _ y h
  · split at h
    · rcases List.mem_append.1 h with h | h
      · split at h
        · exact textN_bytes2 _ y h
        · simp at h
      · exact textN_bytes2 _ y h
    · simp at h
theorem chkI_le (x : Itm) : chkI x ≤ 11 := by
  unfold chkI
  split
  · omega
  split
  · omega
  split
  · omega
  split <;> omega
theorem ps_step {w2 Wc W' : World} {R : Prop} (hb : Below Wc.heap.size Wc W') (h : Below w2.heap.size w2 Wc ∧ R) : Below w2.heap.size w2 W' := h.1.trans (hb.mono h.1.size)
def PutCv (S : ByteArray) (c : Nat) (w : World) (e : Ending) (w' : World) : Prop := ∃ v, e = .returned (.tuple #[v, .int .i64 (c : Int)]) ∧ CvS v S w' ∧ Below w.heap.size w w'
def itemS (x : Itm) : ByteArray := if chkI x = 0 then bsB (itemN x) else bsB []
theorem put_cv {x : Itm} {w : World} {e : Ending} {w' : World} (h : RPutPost x w e w') : PutCv (itemS x) (chkI x) w e w' := by
  unfold PutCv itemS
  rcases h with ⟨h, rfl, hb⟩ | ⟨h, v, rfl, ho, hb⟩
  · rw [if_neg h]
    exact ⟨_, rfl, cvs_none _, hb⟩
  · rw [if_pos h, h]
    exact ⟨v, rfl, cvs_own ho (itemN_bytes2 x (chk_ok h).1), hb⟩
def TextCv (S : ByteArray) (w : World) (e : Ending) (w' : World) : Prop := ∃ v, e = .returned v ∧ CvS v S w' ∧ Below w.heap.size w w'
theorem text_cv {s : ByteArray} {w : World} {e : Ending} {w' : World} (h : TextPost s w e w') : TextCv (bsB (textN s)) w e w' := by
  obtain ⟨v, rfl, ho, hb⟩ := h
  exact ⟨v, rfl, cvs_own ho (textN_bytes2 s), hb⟩
set_option maxRecDepth 100000 in
set_option maxHeartbeats 4000000 in
theorem reprPuts_any (a i : Int) (nm vl s : ByteArray) (w : World) (ha : (Lit.int .u8 a).wf = true) (hi : (Lit.int .i64 i).wf = true) (_ : nm.size ≤ maxLen) (_ : vl.size ≤ maxLen) (_ : s.size ≤ maxLen) :
    Calls Try.prog 10 #[.agg #[.int .u8 a, .int .i64 i, .string nm, .string vl], .string s] w fun e w' => e = .returned (.bool true) ∧ Below w.heap.size w w' := by
  obtain ⟨k, rfl, hk⟩ : ∃ k : Nat, a = k ∧ k < 256 := by
    have e1 : IntKind.u8.min = 0 := rfl
    have e2 : IntKind.u8.max = 255 := rfl
    simp only [Lit.wf, Bool.and_eq_true, decide_eq_true_eq, e1, e2] at ha
    exact ⟨a.toNat, by omega, by omega⟩
  have HB0 := Lib.hid ((Below.refl w.heap.size w).alloc (Nat.le_refl _) (.cells #[.int .u8 (k : Int), .int .i64 i, .string nm, .string vl] 74))
  have HR := Lib.hid (show JRow _ _ k i nm vl from heap_alloc_new w (.cells #[.int .u8 (k : Int), .int .i64 i, .string nm, .string vl] 74))
  have HA := Lib.hid (show ∀ W, Below w.heap.size w W → Calls Try.prog 42 #[] W fun e w' => e = .returned (.bool true) ∧ Below w.heap.size w w' from fun W h => (awake05_any W).mono (by rintro e w' ⟨rfl, h2⟩; exact ⟨rfl, h.trans (h2.mono h.size)⟩))
  by_cases h1 : 60 < nm.size
  · have q1 : decide ((60 : Int) < (nm.size : Int)) = true := decide_eq_true (by omega)
    go_enter Try.func10, Try.ntmps10
    go_wp2_with fail
    refine (HA.out _ HB0.out).mono ?_
    rintro e w3 ⟨rfl, hb⟩
    go_wp2_with fail
    go_ret
    exact ⟨rfl, hb⟩
  have q1 : decide ((60 : Int) < (nm.size : Int)) = false := decide_eq_false (by omega)
  by_cases h2 : 60 < vl.size
  · have q2 : decide ((60 : Int) < (vl.size : Int)) = true := decide_eq_true (by omega)
    go_enter Try.func10, Try.ntmps10
    go_wp2_with fail
    refine (HA.out _ HB0.out).mono ?_
    rintro e w3 ⟨rfl, hb⟩
    go_wp2_with fail
    go_ret
    exact ⟨rfl, hb⟩
  have q2 : decide ((60 : Int) < (vl.size : Int)) = false := decide_eq_false (by omega)
  by_cases h3 : 60 < s.size
  · have q3 : decide ((60 : Int) < (s.size : Int)) = true := decide_eq_true (by omega)
    go_enter Try.func10, Try.ntmps10
    go_wp2_with fail
    refine (HA.out _ HB0.out).mono ?_
    rintro e w3 ⟨rfl, hb⟩
    go_wp2_with fail
    go_ret
    exact ⟨rfl, hb⟩
  have q3 : decide ((60 : Int) < (s.size : Int)) = false := decide_eq_false (by omega)
  have HAW := Lib.hid (fun W => awake05_any W)
  have HP := Lib.hid (fun W => (rput_any k i nm vl hk W).mono (fun e w' h => put_cv h))
  have HQ := Lib.hid (fun W => (dput_any k i nm vl hk (by omega) (by omega) W).mono (fun e w' h => put_cv h))
  have HC := Lib.hid (fun W => rcheck_any k i nm vl hk W)
  have HD := Lib.hid (fun W => dcheck_any k i nm vl hk W)
  have HT := Lib.hid (fun W => (text_any s (by omega) W).mono (fun e w' h => text_cv h))
  have HU := Lib.hid (fun W => (refText_any s (by omega) W).mono (fun e w' h => text_cv h))
  generalize itemS ⟨k, i, nm, vl⟩ = S at HP HQ
  have hc11 : chkI ⟨k, i, nm, vl⟩ ≤ 11 := chkI_le _
  generalize chkI ⟨k, i, nm, vl⟩ = c at HP HQ HC HD hc11
  generalize bsB (textN s) = T at HT HU
  go_enter Try.func10, Try.ntmps10
  go_wp2_with fail
  generalize w.alloc (.cells #[.int .u8 (k : Int), .int .i64 i, .string nm, .string vl] 74) = w0 at HB0 HR ⊢
  refine (HP.out _).mono ?_
  rintro e w1 ⟨va, rfl, hca, hb⟩
  have HB1 := Lib.hid (HB0.out.trans (hb.mono HB0.out.size))
  have HR1 := Lib.hid (HR.out.step hb)
  have HCA := Lib.hid hca
  clear hb hca HB0 HR
  have c0 := HR1.out.c0
  have c1 := HR1.out.c1
  have c2 := HR1.out.c2
  have c3 := HR1.out.c3
  go_wp2_with fail
  clear c0 c1 c2 c3
  refine (HQ.out _).mono ?_
  rintro e w2 ⟨vb, rfl, hcb, hb⟩
  have HB2 := Lib.hid (HB1.out.trans (hb.mono HB1.out.size))
  have HR2 := Lib.hid (HR1.out.step hb)
  have HCA2 := Lib.hid (show CvS va S w2 from fun W hW => HCA.out W (hb.trans (hW.mono hb.size)))
  have HCB2 := Lib.hid hcb
  clear hb hcb HB1 HR1 HCA
  go_wp2_with fail
  have HF := Lib.hid (show ∀ W, Below w2.heap.size w2 W → (Below w2.heap.size w2 W ∧ W.cell? ⟨w.heap.size, 0, none⟩ = some (.int .u8 (k : Int)) ∧ W.cell? ⟨w.heap.size, 1, none⟩ = some (.int .i64 i) ∧ W.cell? ⟨w.heap.size, 2, none⟩ = some (.string nm) ∧ W.cell? ⟨w.heap.size, 3, none⟩ = some (.string vl) ∧ (convert 28 9 va).run Try.prog W = .ok (.string S) W ∧ (convert 28 9 vb).run Try.prog W = .ok (.string S) W) from fun W hW => ⟨hW, (HR2.out.step hW).c0, (HR2.out.step hW).c1, (HR2.out.step hW).c2, (HR2.out.step hW).c3, HCA2.out W hW, HCB2.out W hW⟩)
  have H0 := Lib.hid (HF.out w2.drew (Below.refl _ _).drew)
  have HEND := Lib.hid (show ∀ W, Below w2.heap.size w2 W → Below w.heap.size w W from fun W hW => HB2.out.trans (hW.mono HB2.out.size))
  clear HB2 HR2 HCA2 HCB2
  go_region_held (fun W => Below w2.heap.size w2 W ∧ W.cell? ⟨w.heap.size, 0, none⟩ = some (.int .u8 (k : Int)) ∧ W.cell? ⟨w.heap.size, 1, none⟩ = some (.int .i64 i) ∧ W.cell? ⟨w.heap.size, 2, none⟩ = some (.string nm) ∧ W.cell? ⟨w.heap.size, 3, none⟩ = some (.string vl) ∧ (convert 28 9 va).run Try.prog W = .ok (.string S) W ∧ (convert 28 9 vb).run Try.prog W = .ok (.string S) W) (first | exact HBN | exact H0.out) (first
    | (go_at_call 45; refine (HC.out _).mono ?_; rintro e w' ⟨rfl, hb⟩; have HBN := HF.out _ (ps_step hb (by assumption)))
    | (go_at_call 46; refine (HD.out _).mono ?_; rintro e w' ⟨rfl, hb⟩; have HBN := HF.out _ (ps_step hb (by assumption)))
    | (go_at_call 47; refine (HT.out _).mono ?_; rintro e w' ⟨v, rfl, hcvA, hb⟩; have hcv1 := hcvA _ (Below.refl _ _); (try have hcv2 := hcvB _ hb); have HBN := HF.out _ (ps_step hb (by assumption)))
    | (go_at_call 48; refine (HU.out _).mono ?_; rintro e w' ⟨v, rfl, hcvB, hb⟩; have hcv3 := hcvB _ (Below.refl _ _); (try have hcv4 := hcvA _ hb); have HBN := HF.out _ (ps_step hb (by assumption)))
    | (go_at_call 42; refine (HAW.out _).mono ?_; rintro e w' ⟨rfl, hb⟩; have HBN := HF.out _ (ps_step hb (by assumption))))
  all_goals
    go_wp2_with fail
    go_ret
    exact ⟨rfl, HEND.out _ HBN.1⟩
#print axioms reprPuts_any
end Go.Proofs.Ytmnaljnkgaebkaa
