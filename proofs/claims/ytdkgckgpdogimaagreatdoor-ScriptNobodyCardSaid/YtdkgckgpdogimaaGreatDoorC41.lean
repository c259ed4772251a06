/- Pieces that nothing unknown stands in. -/
import Derived.Test.YtdkgckgpdogimaaGreatDoorC39
namespace Go.Proofs.YtdkgckgpdogimaaGreatDoor
open Go.RowKit
set_option linter.unusedVariables false
set_option linter.unusedSimpArgs false
set_option linter.unusedSectionVars false
theorem at_nil (S : Sy) : S.at (envOf []) = S := by
  have : @envOf S [] = S.env := by
    funext i
    unfold envOf
    rfl
  rw [this]
theorem piece_closed [S : Sy] {P : Program} {l : Dc → Ora} {n N m : Nat} {c : Code} {s t : St} {fn : Func} {rs : List Tm} {x : Ex} {r : List (Nat × Nat)} (hN : NamesOK P) (hm : P.follows .mixedOrders = true) {B : Nat} (hl : OraOK P B l) {ρ : Pm} {D : List Deferred} {act : Act} {w : World} {Q : Exit → Act → World → Prop} (hr : Rep B ρ s.hp w) (hf : Frm D ρ N s.fr act)
    (hc : chkP P l n N m c s fn rs [(x, t)] (.leaf (.at 0 [] r)) [] = true) (hk : ∀ ρ1 act' w', ρ.le ρ1 → Rep B (rnP r ρ1) t.hp w' → Frm D (rnP r ρ1) N t.fr act' → Below B w w' → restQ P Q (dropC m c) x.out act' w') : c.wp P Q act w := by
  refine piece_snd hN hm hl hr hf _ [] hc (fun p hp => by cases hp) _ rfl ?_
  intro p hp ρ1 act' w' h1 h2 h3 h4
  injection hp with hp
  subst hp
  rw [at_nil] at h2 h3
  exact hk ρ1 act' w' h1 h2 h3 h4
/-- What was told of a value is told of it by the new names. -/
theorem ext_keep [S : Sy] [Dc] [DcOK] {r : List (Nat × Nat)} {ρ ρ1 : Pm} {x : AV} {v : Value} (h : x.rp ρ v) (hle : ρ.le ρ1) (hi : impl [] r x x = true) : x.rp (rnP r ρ1) v := by
  have := impl_rp (S := S) (ρ := ρ1) hi (h.mono hle)
  rw [at_nil] at this
  exact this
theorem piece_fin [S : Sy] {P : Program} {l : Dc → Ora} {n N m : Nat} {c : Code} {s : St} {fn : Func} {rs : List Tm} {e : Xp} (hN : NamesOK P) (hm : P.follows .mixedOrders = true) {B : Nat} (hl : OraOK P B l) {ρ : Pm} {act : Act} {w : World} {R : Ending → World → Prop} (hr : Rep B ρ s.hp w) (hf : Frm [] ρ N s.fr act)
    (hc : chkP P l n N m c s fn rs [] (.leaf (.fin e)) [] = true) (hk : ∀ v w' F', resOK F' rs e.den v → Below B w w' → R (.returned v) w') : c.wp P (bodyPost P fn R) act w := by
  refine piece_snd hN hm hl hr hf _ [] hc (fun p hp => by cases hp) _ rfl ?_
  intro act' w' v F' h1 h2 h3 _ _ _ h4
  have : bodyPost P fn R .ret act' w' := ⟨h1, v, h2, hk v w' F' h3 h4⟩
  cases hd : dropC m c with
  | none => exact this
  | some d => exact this
end Go.Proofs.YtdkgckgpdogimaaGreatDoor

