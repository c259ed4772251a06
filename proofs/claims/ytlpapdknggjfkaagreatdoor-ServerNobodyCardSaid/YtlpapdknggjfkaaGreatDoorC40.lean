/- What the server finds when awake: by the machine. -/
import Derived.Test.YtlpapdknggjfkaaGreatDoorC33
import Derived.Test.YtlpapdknggjfkaaGreatDoorC37
import Derived.Test.YtlpapdknggjfkaaGreatDoorC39
namespace Go.Proofs.YtlpapdknggjfkaaGreatDoor
open Go.RowKit
set_option linter.unusedVariables false
set_option linter.unusedSimpArgs false

theorem prog_names : namesB Tryz.prog = true := by kernel_rfl
theorem prog_mixed : (Tryz.prog).follows .mixedOrders = true := by kernel_rfl
noncomputable def svF (f : FuncId) : Option (List AV → M AV) :=
  bif Nat.beq f 197 then some itoaM else bif Nat.beq f 249 then some grM else bif Nat.beq f 366 then some idxM else none
theorem svF_cases {f : FuncId} {g : List AV → M AV} (h : svF f = some g) : (f = 197 ∧ g = itoaM) ∨ (f = 249 ∧ g = grM) ∨ (f = 366 ∧ g = idxM) := by
  unfold svF at h
  cases h1 : Nat.beq f 197 with
  | true => rw [h1] at h; injection h with h; exact .inl ⟨Nat.eq_of_beq_eq_true h1, h.symm⟩
  | false =>
    rw [h1] at h
    cases h2 : Nat.beq f 249 with
    | true => rw [h2] at h; injection h with h; exact .inr (.inl ⟨Nat.eq_of_beq_eq_true h2, h.symm⟩)
    | false =>
      rw [h2] at h
      cases h3 : Nat.beq f 366 with
      | true => rw [h3] at h; injection h with h; exact .inr (.inr ⟨Nat.eq_of_beq_eq_true h3, h.symm⟩)
      | false => rw [h3] at h; cases h
noncomputable def svOra : Ora := ⟨svF, fun _ _ => none⟩
theorem svF_loc {f : FuncId} {g : List AV → M AV} (h : svF f = some g) (args : List AV) : Loc (g args) := by
  letI : Sy := bareSy
  rcases svF_cases h with ⟨_, rfl⟩ | ⟨_, rfl⟩ | ⟨_, rfl⟩
  · exact loc_itoaM args
  · exact loc_grM args
  · exact loc_idxM args
theorem svF_snd [Sy] {B : Nat} {f : FuncId} {g : List AV → M AV} (h : svF f = some g) {args : List AV} {lo : Nat} {hp : Heap} {c : Nat} {lg : List Ev} {x : AV} {h' : Heap} {c' : Nat} {lg' : List Ev} (e : g args lo hp c lg = .ok x h' c' lg') {ρ : Pm} {w : World} {vs : Array Value}
    (hT : Tab w) (hr : Rep B ρ hp w) (hv : AV.rps ρ args vs.toList) : CallRes Tryz.prog B f vs ρ w x h' := by
  have hN := namesB_ok prog_names
  rcases svF_cases h with ⟨rfl, rfl⟩ | ⟨rfl, rfl⟩ | ⟨rfl, rfl⟩
  · exact itoaM_snd e hT hr hv hN
  · exact grM_snd e hr hv hN
  · exact idxM_snd Tryz.func366 (by kernel_rfl) (by kernel_rfl) (by kernel_rfl) (by kernel_rfl) e hr hv
theorem awake30_ran (W : World) (hT : Tab W) : Calls Tryz.prog 5 #[] W fun e w' => e = .returned (.bool true) ∧ Below W.heap.size W w' := by
  letI : Sy := tabSy
  have e : saysTrue (callM Tryz.prog svOra (exec Tryz.prog (fun _ => none) svOra 100000) 5 [] 0 .leaf 0 []) = true := by kernel_rfl
  obtain ⟨h', c', lg', e⟩ := saysTrue_is e
  refine (start_run (ora := svOra) noGlob (namesB_ok prog_names) prog_mixed (fun f g h args => svF_loc h args) (fun f g h args lo hp c lg x h' c' lg' e ρ w vs _ hr hv => svF_snd h e (show TabB _ w from hr.inv).1 hr hv) noTab rfl (Rep.start (TabB.start hT)) (rps_nil.2 rfl) e).mono ?_
  rintro e w' ⟨ρ, v, rfl, h0, h1, h2, h3⟩
  simp only [AV.rp] at h1
  rw [h1]
  exact ⟨rfl, h3⟩
end Go.Proofs.YtlpapdknggjfkaaGreatDoor

