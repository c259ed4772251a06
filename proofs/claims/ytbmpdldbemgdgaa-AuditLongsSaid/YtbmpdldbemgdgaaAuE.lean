/- The statement AuditLongs: what is told of unknown values is so. -/
import Derived.Test.YtbmpdldbemgdgaaAuD
import Derived.Test.YtbmpdldbemgdgaaChecked
namespace Go.Proofs.Ytbmpdldbemgdgaa
open Go.RowKit
set_option linter.unusedVariables false
set_option linter.unusedSimpArgs false

theorem prog_names : namesB Try.prog = true := by kernel_rfl
theorem prog_mixed : (Try.prog).follows .mixedOrders = true := by kernel_rfl
theorem awake35_ran (W : World) : Calls Try.prog 9 #[] W fun e w' => e = .returned (.bool true) ∧ Below W.heap.size W w' :=
  closed_true prog_names prog_mixed 400 (by kernel_rfl) W
def auI (n i m : Nat) : Nat → Option (IntKind × Int)
  | 0 => some (.u16, n)
  | 1 => some (.u16, i)
  | 2 => some (.u32, i)
  | 3 => some (.i64, i)
  | 4 => some (.i64, n)
  | 5 => some (.i64, m)
  | 9 => some (.i64, (i : Int) - m)
  | 10 => some (.i64, 65535 - (m : Int))
  | 11 => some (.i64, (i : Int) - 65535)
  | _ => none
def auP (n i m j : Nat) (v : Value) : Prop :=
  if j = 1006 then ∃ a l c, v = .slice a l c
  else if j = 1007 then ∃ s, v = .string s ∧ s.size = m
  else if j = 1008 then ∃ a c, v = .slice a m c ∧ (a = none → m = 0) ∧ m ≤ c
  else ∃ p, auI n i m j = some p ∧ v = .int p.1 p.2
theorem auP_low {n i m j : Nat} (hj : j < 1000) {v : Value} : auP n i m j v ↔ ∃ p, auI n i m j = some p ∧ v = .int p.1 p.2 := by
  unfold auP
  rw [if_neg (by omega), if_neg (by omega), if_neg (by omega)]
@[reducible] def auSy (n i m : Nat) : Sy := ⟨auP n i m, fun j v h => by
    unfold auP at h
    split at h
    · obtain ⟨_, _, _, rfl⟩ := h; exact ⟨fun _ h => (by cases h), fun _ h => (by cases h)⟩
    · split at h
      · obtain ⟨_, rfl, _⟩ := h; exact ⟨fun _ h => (by cases h), fun _ h => (by cases h)⟩
      · split at h
        · obtain ⟨_, _, rfl, _⟩ := h; exact ⟨fun _ h => (by cases h), fun _ h => (by cases h)⟩
        · obtain ⟨_, _, rfl⟩ := h; exact ⟨fun _ h => (by cases h), fun _ h => (by cases h)⟩,
  fun j hj => by
    cases hp : auI n i m j with
    | none => exact ⟨.i64, 0, fun v h => by
        obtain ⟨p, h, _⟩ := (auP_low hj).1 h
        rw [hp] at h
        cases h⟩
    | some p => exact ⟨p.1, p.2, fun v h => by
        obtain ⟨q, h, h2⟩ := (auP_low hj).1 h
        rw [hp] at h
        injection h with h
        subst h
        exact h2⟩,
  fun _ _ => True, fun _ _ => trivial⟩
theorem au_is {n i m j : Nat} {p : IntKind × Int} (hj : j < 1000) (h : auI n i m j = some p) : @Is (auSy n i m) (.un j) (.int p.1 p.2) := fun ρ u hu => by
  letI : Sy := auSy n i m
  simp only [AV.rp] at hu
  have hu : auP n i m j u := hu
  obtain ⟨q, h1, h2⟩ := (auP_low hj).1 hu
  rw [h] at h1
  injection h1 with h1
  subst h1
  exact h2
theorem au_tells {n i m j : Nat} {k : IntKind} {x : Int} (hj : j < 1000) (h : auI n i m j = some (k, x)) (ρ : Pm) : @AV.rp (auSy n i m) ρ (.un j) (.int k x) := by
  letI : Sy := auSy n i m
  simp only [AV.rp]
  exact (auP_low hj).2 ⟨_, h, rfl⟩
theorem u8_map : ((Try.prog).info? 5).map (fun i => (i.size, i.zero, decide (i.bytes ≤ 10000))) = some (1, some (.int .u8 0), true) := by kernel_rfl
theorem u8_facts : ∃ it : TypeInfo, (Try.prog).info? 5 = some it ∧ it.size = 1 ∧ it.zero = some (.int .u8 0) ∧ it.bytes ≤ 10000 := by
  have h := u8_map
  cases hi : (Try.prog).info? 5 with
  | none => rw [hi] at h; cases h
  | some i =>
    rw [hi] at h
    injection h with h
    injection h with h1 h
    injection h with h2 h3
    exact ⟨i, rfl, h1, h2, of_decide_eq_true h3⟩
theorem au_tabs {n i m : Nat} (hn : n < 65536) (hi : i < 65536) (hm : m = n % 17001) {B : Nat} {ρ0 : Pm} : @TabSnd (auSy n i m) Try.prog B ρ0 (tabOf (auT (decide (16384 < m)) (decide (i < m)))) := by
  letI : Sy := auSy n i m
  have w1 : ∀ z : Int, -9223372036854775808 ≤ z → z < 9223372036854775808 → IntKind.i64.wrap z = z := fun z h1 h2 => IntWalk.i64_in _ (by omega)
  have w2 : IntKind.u32.wrap (i : Int) = i := by
    show (i : Int) % 4294967296 = i
    omega
  have i3 : Is (.un 3) (.int .i64 (i : Int)) := au_is (j := 3) (p := (_, _)) (by omega) rfl
  have i4 : Is (.un 4) (.int .i64 (n : Int)) := au_is (j := 4) (p := (_, _)) (by omega) rfl
  have i5 : Is (.un 5) (.int .i64 (m : Int)) := au_is (j := 5) (p := (_, _)) (by omega) rfl
  have i10 : Is (.un 10) (.int .i64 (65535 - (m : Int))) := au_is (j := 10) (p := (_, _)) (by omega) rfl
  have i11 : Is (.un 11) (.int .i64 ((i : Int) - 65535)) := au_is (j := 11) (p := (_, _)) (by omega) rfl
  have i1 : Is (.un 1) (.int .u16 (i : Int)) := au_is (j := 1) (p := (_, _)) (by omega) rfl
  have i0 : Is (.un 0) (.int .u16 (n : Int)) := au_is (j := 0) (p := (_, _)) (by omega) rfl
  have i2 : Is (.un 2) (.int .u32 (i : Int)) := au_is (j := 2) (p := (_, _)) (by omega) rfl
  have hstr : ∀ ρ v, AV.rp ρ (.un 1007) v → ∃ s, v = .string s ∧ s.size = m := fun ρ v h => by
    simp only [AV.rp] at h
    exact h
  have hsl : ∀ ρ v, AV.rp ρ (.un 1008) v → ∃ a c, v = .slice a m c ∧ (a = none → m = 0) ∧ m ≤ c := fun ρ v h => by
    simp only [AV.rp] at h
    exact h
  have hmk : ∀ ρ a c, (a = none → m = 0) → m ≤ c → AV.rp ρ (.un 1008) (.slice a m c) := fun ρ a c h1 h2 => by
    simp only [AV.rp]
    exact ⟨a, c, rfl, h1, h2⟩
  obtain ⟨u8i, hu8, hu1, hu2, hu3⟩ := u8_facts
  refine tabOf_snd (fun e he => ?_) (fun e he => ?_) (fun e he => ?_)
  · simp only [auT, List.mem_cons, List.not_mem_nil, or_false] at he
    rcases he with rfl | rfl | rfl | rfl | rfl | rfl | rfl | rfl | rfl | rfl | rfl | rfl | rfl
    · exact bin_rem i4 (is_int _ _) (by decide) (fun ρ => by
        rw [show Int.tmod (n : Int) 17001 = (m : Int) by rw [hm]; rfl]
        exact au_tells (by omega) rfl ρ)
    · exact bin_lt i5 (is_int _ _) (.inr (.inl ⟨rfl, by simp; omega⟩))
    · exact bin_lt i5 i3 (.inr (.inl ⟨rfl, by simp⟩))
    · exact bin_lt i3 (is_int _ _) (.inr (.inl ⟨rfl, by simp; omega⟩))
    · exact bin_lt i3 (is_int _ _) (.inr (.inr (.inr (.inl ⟨rfl, by simp⟩))))
    · exact bin_lt i3 (is_int _ _) (.inr (.inr (.inl ⟨rfl, by simp; omega⟩)))
    · exact bin_sub i3 (is_int _ _) (fun ρ => by rw [w1 _ (by omega) (by omega)]; exact au_tells (by omega) rfl ρ)
    · exact bin_add (is_int _ _) i11 (fun ρ => by rw [w1 _ (by omega) (by omega), show (65535 : Int) + (i - 65535) = i by omega]; exact au_tells (by omega) rfl ρ)
    · exact bin_lt (is_int _ _) i3 (.inr (.inr (.inl ⟨rfl, decide_eq_true (by omega)⟩)))
    · exact bin_sub i3 i5 (fun ρ => by rw [w1 _ (by omega) (by omega)]; exact au_tells (by omega) rfl ρ)
    · exact bin_sub (is_int _ _) i5 (fun ρ => by rw [w1 _ (by omega) (by omega)]; exact au_tells (by omega) rfl ρ)
    · exact bin_lt i10 i10 (.inr (.inr (.inr (.inr (.inl ⟨rfl, by simp⟩)))))
    · exact bin_lt i3 i3 (.inr (.inr (.inr (.inr (.inl ⟨rfl, by simp⟩)))))
  · simp only [auT, List.mem_cons, List.not_mem_nil, or_false] at he
    rcases he with rfl | rfl | rfl | rfl
    · exact cnv_int Try.underlying22 Try.underlying29 i1 (fun ρ => by rw [w2]; exact au_tells (by omega) rfl ρ)
    · exact cnv_int Try.underlying29 Try.underlying3 i2 (fun ρ => by rw [w1 _ (by omega) (by omega)]; exact au_tells (by omega) rfl ρ)
    · exact cnv_int Try.underlying22 Try.underlying3 i0 (fun ρ => by rw [w1 _ (by omega) (by omega)]; exact au_tells (by omega) rfl ρ)
    · exact cnv_int Try.underlying22 Try.underlying3 i1 (fun ρ => by rw [w1 _ (by omega) (by omega)]; exact au_tells (by omega) rfl ρ)
  · simp only [auT, List.mem_cons, List.not_mem_nil, or_false] at he
    rcases he with rfl | rfl | rfl | rfl | rfl
    · exact blt_slen Try.underlying9 hstr (fun ρ => au_tells (by omega) rfl ρ)
    · exact blt_app_none Try.underlying37 Try.underlying9 hu8 hu1 hu2 hu3 (by omega) hstr hmk
    · exact blt_app_zero Try.underlying37 Try.underlying3 hu8 (fun ρ v h => by
        obtain ⟨a, c, rfl, h1, h2⟩ := hsl ρ v h
        exact ⟨a, m, c, rfl, h1, h2, h⟩)
    · exact blt_llen Try.underlying37 (fun ρ v h => by
        obtain ⟨a, c, h, _⟩ := hsl ρ v h
        exact ⟨a, c, h⟩) (fun ρ => au_tells (by omega) rfl ρ)
    · refine blt_min i3 (fun ρ v h => is_int _ _ ρ v h) (fun ρ => ?_)
      rw [if_neg (by omega)]
      exact au_tells (by omega) rfl ρ
end Go.Proofs.Ytbmpdldbemgdgaa

