/- The statement ServerNobody: its walk. -/
import Derived.Test.YtlpapdknggjfkaaGreatDoorC41
import Derived.Test.YtlpapdknggjfkaaGreatDoorC42
namespace Go.Proofs.YtlpapdknggjfkaaGreatDoor
open Go.RowKit
set_option linter.unusedVariables false
set_option linter.unusedSimpArgs false

def nbI (k id n : Int) (s : ByteArray) : Nat → Option (IntKind × Int)
  | 0 => some (.u8, k)
  | 1 => some (.i64, id)
  | 2 => some (.i64, n)
  | 3 => some (.i64, s.size)
  | _ => none
def nbQ (s : ByteArray) (j : Nat) (v : Value) : Prop := (j = 1000 ∧ v = .string s) ∨ (j = 1001 ∧ ∃ a l c, v = .slice a l c)
theorem nbQ_one (s : ByteArray) : ∀ i v, nbQ s i v → (∀ a, v ≠ .agg a) ∧ (∀ a, v ≠ .tuple a) := fun i v h => by
  rcases h with ⟨_, rfl⟩ | ⟨_, _, _, _, rfl⟩
  · exact ⟨fun _ h => (by cases h), fun _ h => (by cases h)⟩
  · exact ⟨fun _ h => (by cases h), fun _ h => (by cases h)⟩
@[reducible] def nbSy (k id n : Int) (s : ByteArray) : Sy := mkSy (nbI k id n s) (nbQ s) (nbQ_one s) TabB TabB.keep
theorem nb_ran0 : saysTrue (nbR false 0) = true ∧ saysTrue (nbR false 1) = true ∧ saysTrue (nbR false 2) = true ∧ saysTrue (nbR false 3) = true ∧ saysTrue (nbR false 4) = true ∧ saysTrue (nbR false 5) = true ∧ saysTrue (nbR false 6) = true ∧ saysTrue (nbR false 7) = true ∧ saysTrue (nbR false 8) = true ∧ saysTrue (nbR false 9) = true :=
  ⟨by kernel_rfl, by kernel_rfl, by kernel_rfl, by kernel_rfl, by kernel_rfl, by kernel_rfl, by kernel_rfl, by kernel_rfl, by kernel_rfl, by kernel_rfl⟩
theorem nb_long0 : saysTrue (nbR true 0) = true ∧ saysTrue (nbR true 1) = true ∧ saysTrue (nbR true 2) = true ∧ saysTrue (nbR true 3) = true ∧ saysTrue (nbR true 4) = true ∧ saysTrue (nbR true 5) = true ∧ saysTrue (nbR true 6) = true ∧ saysTrue (nbR true 7) = true ∧ saysTrue (nbR true 8) = true ∧ saysTrue (nbR true 9) = true :=
  ⟨by kernel_rfl, by kernel_rfl, by kernel_rfl, by kernel_rfl, by kernel_rfl, by kernel_rfl, by kernel_rfl, by kernel_rfl, by kernel_rfl, by kernel_rfl⟩
theorem nb_long (r : Nat) (hr : r < 10) : saysTrue (nbR true r) = true := by
  obtain ⟨h0, h1, h2, h3, h4, h5, h6, h7, h8, h9⟩ := nb_long0
  have : r = 0 ∨ r = 1 ∨ r = 2 ∨ r = 3 ∨ r = 4 ∨ r = 5 ∨ r = 6 ∨ r = 7 ∨ r = 8 ∨ r = 9 := by omega
  rcases this with rfl | rfl | rfl | rfl | rfl | rfl | rfl | rfl | rfl | rfl
  · exact h0
  · exact h1
  · exact h2
  · exact h3
  · exact h4
  · exact h5
  · exact h6
  · exact h7
  · exact h8
  · exact h9
theorem nb_ran (r : Nat) (hr : r < 10) : saysTrue (nbR false r) = true := by
  obtain ⟨h0, h1, h2, h3, h4, h5, h6, h7, h8, h9⟩ := nb_ran0
  have : r = 0 ∨ r = 1 ∨ r = 2 ∨ r = 3 ∨ r = 4 ∨ r = 5 ∨ r = 6 ∨ r = 7 ∨ r = 8 ∨ r = 9 := by omega
  rcases this with rfl | rfl | rfl | rfl | rfl | rfl | rfl | rfl | rfl | rfl
  · exact h0
  · exact h1
  · exact h2
  · exact h3
  · exact h4
  · exact h5
  · exact h6
  · exact h7
  · exact h8
  · exact h9
theorem nbF_cases {f : FuncId} {g : List AV → M AV} (h : nbF f = some g) : f = 5 ∧ g = fun args => match args with | [] => ret (.bool true) | _ => fail [199] := by
  unfold nbF at h
  cases h1 : Nat.beq f 5 with
  | true => rw [h1] at h; injection h with h; exact ⟨Nat.eq_of_beq_eq_true h1, h.symm⟩
  | false => rw [h1] at h; cases h
theorem nb_snd [Sy] (hi : ∀ B w, Sy.inv B w → Tab w) {long : Bool} {r : Nat} {B : Nat} {ρ0 : Pm} : OraSnd Tryz.prog B ρ0 (nbOra long r) := by
  intro f g hf args lo h c lg x h' c' lg' e ρ w vs hle hr hv
  obtain ⟨rfl, rfl⟩ := nbF_cases hf
  cases args with
  | cons _ _ => cases e
  | nil =>
    obtain ⟨rfl, rfl, _, _⟩ := ret_ok (show ret (AV.bool true) lo h c lg = .ok x h' c' lg' from e)
    rw [rps_nil] at hv
    obtain rfl : vs = #[] := by rw [← Array.toArray_toList (xs := vs), hv]
    refine .inl ⟨MuLone.run_callFunc_enter Tryz.func5 (namesB_ok prog_names _ _ _ Tryz.func5 rfl) rfl _ w, (awake30_ran w (hi B w hr.inv)).mono fun e w' ⟨h1, h2⟩ => ?_⟩
    exact ⟨ρ, .bool true, h1, Pm.le.refl ρ, by simp only [AV.rp], hr.grow h2, below_grow hr h2⟩
theorem nb_loc (long : Bool) (r : Nat) : OraLoc (nbOra long r) := by
  letI : Sy := bareSy
  intro f g hf args
  obtain ⟨rfl, rfl⟩ := nbF_cases hf
  cases args with
  | cons _ _ => exact Loc.fail _
  | nil => exact Loc.ret _
theorem nb_tabs {k r : Nat} {id n : Int} {s : ByteArray} {long : Bool} (hr : r = k % 10) (hl : decide ((s.size : Int) > 400) = long) {B : Nat} {ρ0 : Pm} : @TabSnd (nbSy k id n s) Tryz.prog B ρ0 (tabOf (nbT long r)) := by
  letI : Sy := nbSy k id n s
  have i0 : Is (.un 0) (.int .u8 (k : Int)) := mk_is (by omega) rfl
  have i3 : Is (.un 3) (.int .i64 (s.size : Int)) := mk_is (by omega) rfl
  have hstr : ∀ ρ v, AV.rp ρ (.un 1000) v → v = .string s := fun ρ v h => by
    rcases (mk_rest (by omega)).1 h with ⟨_, h⟩ | ⟨h, _⟩
    · exact h
    · omega
  refine tabOf_snd (fun e he => ?_) (fun e he => ?_) (fun e he => ?_)
  · simp only [nbT, List.mem_cons, List.not_mem_nil, or_false] at he
    rcases he with rfl | rfl
    · exact bin_lt i3 (is_int _ _) (.inr (.inl ⟨rfl, hl⟩))
    · exact bin_rem i0 (is_int _ _) (by decide) (fun ρ => by
        rw [show Int.tmod (k : Int) 10 = ((k % 10 : Nat) : Int) from rfl, ← hr]
        simp only [AV.rp]
        rfl)
  · simp only [nbT, List.mem_cons, List.not_mem_nil, or_false] at he
    subst he
    exact cnv_bytes Tryz.underlying9 Tryz.underlying81 Tryz.underlying5 (fun ρ v h => ⟨s, hstr ρ v h⟩) (fun ρ a l c => (mk_rest (by omega)).2 (.inr ⟨rfl, a, l, c, rfl⟩))
  · simp only [nbT, List.mem_cons, List.not_mem_nil, or_false] at he
    subst he
    exact blt_slen Tryz.underlying9 (fun ρ v h => ⟨s, hstr ρ v h, rfl⟩) (fun ρ => mk_tells (by omega) rfl ρ)
theorem serverNobody_nat (k : Nat) (id : Int) (s : ByteArray) (n : Int) (W : World) (hT : Tab W) : Calls Tryz.prog 3 #[.agg #[.int .u8 (k : Int), .int .i64 id, .string s, .int .i64 n]] W fun e w' => e = .returned (.bool true) ∧ Below W.heap.size W w' := by
  letI : Sy := nbSy k id n s
  have main : ∀ (long : Bool) (r : Nat), saysTrue (nbR long r) = true → TabSnd Tryz.prog W.heap.size (fun _ => none) (tabOf (nbT long r)) → Calls Tryz.prog 3 #[.agg #[.int .u8 (k : Int), .int .i64 id, .string s, .int .i64 n]] W fun e w' => e = .returned (.bool true) ∧ Below W.heap.size W w' := fun long r e ht => by
    obtain ⟨h', c', lg', e⟩ := saysTrue_is e
    have hv : AV.rps (fun _ => none) [.agg [.un 0, .un 1, .un 1000, .un 2]] (#[.agg #[.int .u8 (k : Int), .int .i64 id, .string s, .int .i64 n]] : Array Value).toList := by
      refine rps_cons.2 ⟨_, _, rfl, ?_, rps_nil.2 rfl⟩
      simp only [AV.rp]
      refine ⟨_, rfl, rps_cons.2 ⟨_, _, rfl, mk_tells (j := 0) (by omega) rfl _, rps_cons.2 ⟨_, _, rfl, mk_tells (j := 1) (by omega) rfl _, rps_cons.2 ⟨_, _, rfl, (mk_rest (j := 1000) (by omega)).2 (.inl ⟨rfl, rfl⟩), rps_cons.2 ⟨_, _, rfl, mk_tells (j := 2) (by omega) rfl _, rps_nil.2 rfl⟩⟩⟩⟩⟩
    refine (start_run (ora := nbOra long r) noGlob (namesB_ok prog_names) prog_mixed (nb_loc long r) (nb_snd (fun B w h => (show TabB B w from h).1)) ht rfl (Rep.start (TabB.start hT)) hv e).mono ?_
    rintro e w' ⟨ρ, v, rfl, h0, h1, h2, h3⟩
    simp only [AV.rp] at h1
    rw [h1]
    exact ⟨rfl, h3⟩
  by_cases hl : (s.size : Int) > 400
  · exact main true (k % 10) (nb_long _ (Nat.mod_lt _ (by omega))) (nb_tabs rfl (decide_eq_true hl))
  · exact main false (k % 10) (nb_ran _ (Nat.mod_lt _ (by omega))) (nb_tabs rfl (decide_eq_false hl))
theorem serverNobody_any (k id : Int) (s : ByteArray) (n : Int) (W : World) (hT : Tab W) (hk : (Lit.int .u8 k).wf = true) (_ : (Lit.int .i64 id).wf = true) (_ : s.size ≤ maxLen) (_ : (Lit.int .i64 n).wf = true) : Calls Tryz.prog 3 #[.agg #[.int .u8 k, .int .i64 id, .string s, .int .i64 n]] W fun e w' => e = .returned (.bool true) ∧ Below W.heap.size W w' := by
  have m1 : IntKind.u8.min = 0 := rfl
  have m2 : IntKind.u8.max = 255 := rfl
  simp [Lit.wf, m1, m2] at hk
  have hk0 : ((k.toNat : Nat) : Int) = k := Int.toNat_of_nonneg (by omega)
  rw [← hk0]
  exact serverNobody_nat k.toNat id s n W hT
end Go.Proofs.YtlpapdknggjfkaaGreatDoor

