/- The machine's slices of slices and literals, in the program. -/
import Derived.Test.YtdflkikhmngfiaaDoorC08
namespace Go.Proofs.YtdflkikhmngfiaaDoor
open Go.RowKit
set_option linter.unusedVariables false
set_option linter.unusedSimpArgs false
set_option linter.unusedSectionVars false
variable [Sy] [Dc] [DcOK]

section
variable {P : Program} {ρ : Pm} {w : World}
theorem okm_spec {hi mx : Option AV} (h : okm hi mx = true) : mx.isSome = true → hi.isSome = true := by
  cases hi <;> cases mx <;> simp_all [okm]
theorem sliceV_if {t : TypeId} {x : AV} {lo hi mx : Option AV} {y : AV} (e : sliceV P t x lo hi mx = some y) : okm hi mx = true := by
  unfold sliceV at e
  cases h : okm hi mx with
  | true => rfl
  | false => rw [h] at e; cases e
theorem sliceAt_other {t : TypeId} (hu : ∀ n e, P.underlying t ≠ some (.array n e)) {d : TypeDesc} (hd : P.underlying t = some d) (v : Value) (l h m : Option Value) : (Instr.sliceAt t v l h m).run P w = (Instr.slice t v l h m).run P w := by
  unfold Instr.sliceAt
  simp only [Sem.run_bind, run_underlying hd, Result.andThen_ok]
  cases d with
  | array n e => exact absurd hd (hu n e)
  | _ => rfl
theorem slice_snd {t : TypeId} {x y : AV} {lo hi mx : Option AV} {v : Value} {vl vh vm : Option Value} (e : sliceV P t x lo hi mx = some y) (hx : x.rp ρ v) (hl : rpo ρ lo vl) (hh : rpo ρ hi vh) (hm : rpo ρ mx vm) : ∃ u, (Instr.sliceAt t v vl vh vm).run P w = .ok u w ∧ y.rp ρ u := by
  have hok := sliceV_if e
  have hok2 := okm_spec hok
  unfold sliceV at e
  rw [hok] at e
  cases x with
  | str l =>
    dsimp only [cond] at e
    split at e
    · rename_i hu
      rw [fNat_eq] at e
      obtain ⟨h, e2, e⟩ := bind_some' e
      obtain ⟨j, e3, e⟩ := bind_some' e
      rw [sv_eq, takeL_eq, dropL_eq] at e
      injection e with e
      subst e
      simp only [AV.rp] at hx
      obtain ⟨hb, rfl⟩ := hx
      have hs : (bytesOf l).size = lenL l := by rw [lenL_eq, bytesOf_size]
      have hbd := bounds_snd (w := w) (P := P) (s := false) (len := (bytesOf l).size) (cap := (bytesOf l).size) (mx := none) (m := (bytesOf l).size) rfl (hs ▸ e2) e3 (fun h => by cases h) hl hh (show rpo ρ none none from trivial)
      obtain rfl := rpo_none hm
      refine ⟨.string ((bytesOf l).extract j h), ?_, ?_⟩
      · rw [sliceAt_other (fun n e hh => by rw [hu] at hh; cases hh) hu]
        simp [Instr.slice, run_underlying hu, hbd]
      · simp only [AV.rp]
        refine ⟨fun x hx => hb x (List.mem_of_mem_drop (List.mem_of_mem_take hx)), ?_⟩
        congr 1
        apply Go.WideShapes.bytes_inj
        rw [bytesOf_toList, List.map_take, List.map_drop]
        show ((bytesOf l).extract j h).data.toList = _
        rw [ByteArray.data_extract]
        rw [Array.toList_extract, List.extract_eq_take_drop, bytesOf_toList]
        rfl
    · cases e
  | nils =>
    obtain ⟨el, h1, e⟩ := bind_some' (show (elS P t).bind (fun e => (szO P e).bind fun _ => (bnd1 0 mx 0).bind fun m => (bnd1 0 hi m).bind fun h => (bnd1 0 lo h).bind fun _ => some .nils) = some y from e)
    obtain ⟨k, h2, e⟩ := bind_some' e
    obtain ⟨m, e1, e⟩ := bind_some' e
    obtain ⟨h, e2, e⟩ := bind_some' e
    obtain ⟨j, e3, e⟩ := bind_some' e
    injection e with e
    subst e
    simp only [AV.rp] at hx
    subst hx
    have hu := elS_some h1
    have hbd := bounds_snd (w := w) (P := P) (s := true) e1 e2 e3 hok2 hl hh hm
    have m0 : m = 0 := by rcases bnd1_some e1 with ⟨_, h⟩ | ⟨_, _, h⟩ <;> omega
    have h0 : h = 0 := by rcases bnd1_some e2 with ⟨_, h⟩ | ⟨_, _, h⟩ <;> omega
    have j0 : j = 0 := by rcases bnd1_some e3 with ⟨_, h⟩ | ⟨_, _, h⟩ <;> omega
    subst m0 h0 j0
    refine ⟨.slice none 0 0, ?_, by simp only [AV.rp]⟩
    rw [sliceAt_other (fun n e hh => by rw [hu] at hh; cases hh) hu]
    simp [Instr.slice, run_underlying hu, hbd, run_szO h2]
  | emp =>
    dsimp only [cond] at e
    simp only [AV.rp] at hx
    obtain ⟨a, c, rfl⟩ := hx
    cases mx with
    | none =>
      obtain ⟨el, h1, e⟩ := bind_some' (show (elS P t).bind (fun e => (szO P e).bind fun _ => (bnd1 0 hi 0).bind fun h => (bnd1 0 lo h).bind fun _ => some .emp) = some y from e)
      obtain ⟨k, h2, e⟩ := bind_some' e
      obtain ⟨h, e2, e⟩ := bind_some' e
      obtain ⟨j, e3, e⟩ := bind_some' e
      injection e with e
      subst e
      have hu := elS_some h1
      obtain rfl := rpo_none hm
      have h0 : h = 0 := by rcases bnd1_some e2 with ⟨_, h⟩ | ⟨_, _, h⟩ <;> omega
      have j0 : j = 0 := by rcases bnd1_some e3 with ⟨_, h⟩ | ⟨_, _, h⟩ <;> omega
      subst h0 j0
      have e2' : bnd1 0 hi c = some 0 := by
        rcases bnd1_some e2 with ⟨rfl, _⟩ | ⟨kk, rfl, hle⟩
        · rfl
        · show inI ((0 : Nat) : Int) (Nat.succ c) = some 0
          show (bif Nat.blt 0 (Nat.succ c) then some 0 else none) = some 0
          rw [blt_t (by omega)]; rfl
      have hbd := bounds_snd (w := w) (P := P) (s := true) (mx := none) (cap := c) (m := c) rfl e2' e3 (fun h => by cases h) hl hh (show rpo ρ none none from trivial)
      rw [sliceAt_other (fun n e hh => by rw [hu] at hh; cases hh) hu]
      by_cases hc : c = 0
      · subst hc
        exact ⟨.slice (some a) 0 0, by simp [Instr.slice, run_underlying hu, hbd, run_szO h2], by simp only [AV.rp]; exact ⟨_, _, rfl⟩⟩
      · exact ⟨.slice (some a) 0 c, by simp [Instr.slice, run_underlying hu, hbd, run_szO h2, hc, Addr.add], by simp only [AV.rp]; exact ⟨_, _, rfl⟩⟩
    | some _ => cases e
  | oe n9 z9 f9 =>
    dsimp only [cond] at e
    have hx9 := hx
    obtain ⟨a, c, rfl⟩ := oe_emp hx
    cases mx with
    | none =>
      obtain ⟨el, h1, e⟩ := bind_some' (show (elS P t).bind (fun e => (szO P e).bind fun _ => (bnd1 0 hi 0).bind fun h => (bnd1 0 lo h).bind fun _ => some (.oe n9 z9 f9)) = some y from e)
      obtain ⟨k, h2, e⟩ := bind_some' e
      obtain ⟨h, e2, e⟩ := bind_some' e
      obtain ⟨j, e3, e⟩ := bind_some' e
      injection e with e
      subst e
      have hu := elS_some h1
      obtain rfl := rpo_none hm
      have h0 : h = 0 := by rcases bnd1_some e2 with ⟨_, h⟩ | ⟨_, _, h⟩ <;> omega
      have j0 : j = 0 := by rcases bnd1_some e3 with ⟨_, h⟩ | ⟨_, _, h⟩ <;> omega
      subst h0 j0
      have e2' : bnd1 0 hi c = some 0 := by
        rcases bnd1_some e2 with ⟨rfl, _⟩ | ⟨kk, rfl, hle⟩
        · rfl
        · show inI ((0 : Nat) : Int) (Nat.succ c) = some 0
          show (bif Nat.blt 0 (Nat.succ c) then some 0 else none) = some 0
          rw [blt_t (by omega)]; rfl
      have hbd := bounds_snd (w := w) (P := P) (s := true) (mx := none) (cap := c) (m := c) rfl e2' e3 (fun h => by cases h) hl hh (show rpo ρ none none from trivial)
      rw [sliceAt_other (fun n e hh => by rw [hu] at hh; cases hh) hu]
      by_cases hc : c = 0
      · subst hc
        exact ⟨.slice (some a) 0 0, by simp [Instr.slice, run_underlying hu, hbd, run_szO h2], hx9⟩
      · exact ⟨.slice (some a) 0 c, by simp [Instr.slice, run_underlying hu, hbd, run_szO h2, hc, Addr.add], hx9⟩
    | some _ => cases e
  | sl n o len cap =>
    obtain ⟨el, h1, e⟩ := bind_some' (show (elS P t).bind (fun e => (szO P e).bind fun k => (bnd1 cap mx cap).bind fun m => (bnd1 len hi m).bind fun h => (bnd1 0 lo h).bind fun l =>
      fNat (Nat.sub h l) fun len' => fNat (Nat.sub m l) fun cap' => bif Nat.beq m l then some (.sl n o len' cap') else fNat (Nat.add o (Nat.mul l k)) fun o => some (.sl n o len' cap')) = some y from e)
    obtain ⟨k, h2, e⟩ := bind_some' e
    obtain ⟨m, e1, e⟩ := bind_some' e
    obtain ⟨h, e2, e⟩ := bind_some' e
    obtain ⟨j, e3, e⟩ := bind_some' e
    rw [fNat_eq, fNat_eq] at e
    simp only [AV.rp] at hx
    obtain ⟨b, f, c, hn, rfl⟩ := hx
    have hu := elS_some h1
    have hbd := bounds_snd (w := w) (P := P) (s := true) e1 e2 e3 hok2 hl hh hm
    rw [sliceAt_other (fun n e hh => by rw [hu] at hh; cases hh) hu]
    by_cases hmj : m = j
    · rw [beq_t hmj] at e
      injection e with e
      subst e
      refine ⟨.slice (some ⟨b, f + o, none⟩) (h - j) (m - j), ?_, by simp only [AV.rp]; exact ⟨b, f, c, hn, rfl⟩⟩
      simp [Instr.slice, run_underlying hu, hbd, run_szO h2, hmj]
    · rw [beq_f hmj] at e
      have e : fNat (Nat.add o (Nat.mul j k)) (fun o => some (AV.sl n o (Nat.sub h j) (Nat.sub m j))) = some y := e
      rw [fNat_eq] at e
      injection e with e
      subst e
      refine ⟨.slice (some ⟨b, f + (o + j * k), none⟩) (h - j) (m - j), ?_, by simp only [AV.rp]; exact ⟨b, f, c, hn, rfl⟩⟩
      simp [Instr.slice, run_underlying hu, hbd, run_szO h2, hmj, addr_add, Nat.add_assoc]
  | os n z f len =>
    dsimp only [cond] at e
    simp only [AV.rp] at hx
    obtain ⟨b, g, c, hn, hlc, rfl⟩ := hx
    cases mx with
    | none =>
      obtain ⟨el, h1, e⟩ := bind_some' (show (elS P t).bind (fun el => (szO P el).bind fun k => bif Nat.beq k z then (bnd1 len hi len).bind fun h => (bnd1 0 lo h).bind fun l =>
        bif Nat.beq l 0 then some (.os n z f h) else bif Nat.beq h l then fNat (Nat.add f l) (fun e => some (.oe n z e)) else fNat (Nat.sub h l) fun len' => fNat (Nat.add f l) fun e => some (.os n z e len') else none) = some y from e)
      obtain ⟨k, h2, e⟩ := bind_some' e
      obtain ⟨hz, e5⟩ := bif_some e
      obtain rfl := Nat.eq_of_beq_eq_true hz
      obtain ⟨h, e2, e6⟩ := bind_some' e5
      obtain ⟨j, e3, e7⟩ := bind_some' e6
      have hu := elS_some h1
      obtain rfl := rpo_none hm
      have q2 : h ≤ len := by rcases bnd1_some e2 with ⟨_, h⟩ | ⟨_, _, h⟩ <;> omega
      have q3 : j ≤ h := by rcases bnd1_some e3 with ⟨_, h⟩ | ⟨_, _, h⟩ <;> omega
      have e2' : bnd1 len hi (c - f) = some h := by
        rcases bnd1_some e2 with ⟨rfl, rfl⟩ | ⟨kk, rfl, hle⟩
        · rfl
        · show inI (h : Int) (Nat.succ (c - f)) = some h
          show (bif Nat.blt h (Nat.succ (c - f)) then some h else none) = some h
          rw [blt_t (by omega)]; rfl
      have hbd := bounds_snd (w := w) (P := P) (s := true) (mx := none) (cap := c - f) (m := c - f) rfl e2' e3 (fun h => by cases h) hl hh (show rpo ρ none none from trivial)
      rw [sliceAt_other (fun n e hh => by rw [hu] at hh; cases hh) hu]
      by_cases hj0 : j = 0
      · rw [beq_t hj0] at e7
        injection e7 with e7
        subst e7 hj0
        refine ⟨.slice (some ⟨b, g + f * k, none⟩) h (c - f), ?_, by simp only [AV.rp]; exact ⟨b, g, c, hn, by omega, rfl⟩⟩
        simp [Instr.slice, run_underlying hu, hbd, run_szO h2, addr_add]
      · rw [beq_f hj0] at e7
        have e7 : (bif Nat.beq h j then fNat (Nat.add f j) (fun e => some (AV.oe n k e)) else fNat (Nat.sub h j) fun len' => fNat (Nat.add f j) fun e => some (AV.os n k e len')) = some y := e7
        by_cases hhj : h = j
        · rw [beq_t hhj] at e7
          have e7 : fNat (Nat.add f j) (fun e => some (AV.oe n k e)) = some y := e7
          rw [fNat_eq] at e7
          injection e7 with e7
          subst e7
          subst hhj
          by_cases hc : c - f = h
          · refine ⟨.slice (some ⟨b, g + f * k, none⟩) 0 (c - f - h), ?_, by simp only [AV.rp]; exact ⟨b, g, c, hn, by show f + h ≤ c; omega, .inr ⟨by show f + h = c; omega, _, by rw [show c - f - h = 0 by omega]⟩⟩⟩
            rw [hc] at hbd
            simp [Instr.slice, run_underlying hu, hbd, run_szO h2, hc]
          · refine ⟨.slice (some ⟨b, g + f * k + h * k, none⟩) 0 (c - f - h), ?_, by simp only [AV.rp]; exact ⟨b, g, c, hn, by show f + h ≤ c; omega, .inl ⟨by show f + h < c; omega, by show _ = Value.slice (some ⟨b, g + (f + h) * k, none⟩) 0 (c - (f + h)); rw [Nat.add_mul, Nat.add_assoc, Nat.sub_sub]⟩⟩⟩
            simp [Instr.slice, run_underlying hu, hbd, run_szO h2, hc, addr_add]
        · rw [beq_f hhj] at e7
          have e7 : (fNat (Nat.sub h j) fun len' => fNat (Nat.add f j) fun e => some (AV.os n k e len')) = some y := e7
          rw [fNat_eq, fNat_eq] at e7
          injection e7 with e7
          subst e7
          have hc : ¬ c - f = j := by omega
          refine ⟨.slice (some ⟨b, g + (f + j) * k, none⟩) (h - j) (c - (f + j)), ?_, by simp only [AV.rp]; exact ⟨b, g, c, hn, by show f + j + (h - j) ≤ c; omega, rfl⟩⟩
          have e9 : g + f * k + j * k = g + (f + j) * k := by rw [Nat.add_mul, Nat.add_assoc]
          have e10 : c - f - j = c - (f + j) := by omega
          simp [Instr.slice, run_underlying hu, hbd, run_szO h2, hc, addr_add, e9, e10]
    | some mv =>
      cases mv with
      | int kk i =>
        obtain ⟨el, h1, e⟩ := bind_some' (show (elS P t).bind (fun el => (szO P el).bind fun k => bif Nat.beq k z then (inI i (Nat.succ len)).bind fun m => (bnd1 len hi m).bind fun h => (bnd1 0 lo h).bind fun l =>
          fNat (Nat.sub h l) fun len' => fNat (Nat.sub m l) fun cap' => bif Nat.beq m l then fNat (Nat.mul f k) fun o => some (.sl n o len' cap') else fNat (Nat.mul (Nat.add f l) k) fun o => some (.sl n o len' cap') else none) = some y from e)
        obtain ⟨k, h2, e⟩ := bind_some' e
        obtain ⟨hz, e5⟩ := bif_some e
        obtain rfl := Nat.eq_of_beq_eq_true hz
        obtain ⟨m, e1, e6⟩ := bind_some' e5
        obtain ⟨h, e2, e7⟩ := bind_some' e6
        obtain ⟨j, e3, e8⟩ := bind_some' e7
        rw [fNat_eq, fNat_eq] at e8
        have hu := elS_some h1
        obtain ⟨rfl, hmlt⟩ := inI_some e1
        have e1' : bnd1 (c - f) (some (.int kk (m : Int))) (c - f) = some m := by
          show (bif Nat.blt m (Nat.succ (c - f)) then some m else none) = some m
          rw [blt_t (by omega)]; rfl
        have hbd := bounds_snd (w := w) (P := P) (s := true) (cap := c - f) e1' e2 e3 hok2 hl hh hm
        rw [sliceAt_other (fun n e hh => by rw [hu] at hh; cases hh) hu]
        by_cases hmj : m = j
        · rw [beq_t hmj] at e8
          have e8 : fNat (Nat.mul f k) (fun o => some (AV.sl n o (Nat.sub h j) (Nat.sub m j))) = some y := e8
          rw [fNat_eq] at e8
          injection e8 with e8
          subst e8
          refine ⟨.slice (some ⟨b, g + f * k, none⟩) (h - j) (m - j), ?_, by simp only [AV.rp]; exact ⟨b, g, c, hn, rfl⟩⟩
          simp [Instr.slice, run_underlying hu, hbd, run_szO h2, hmj]
        · rw [beq_f hmj] at e8
          have e8 : fNat (Nat.mul (Nat.add f j) k) (fun o => some (AV.sl n o (Nat.sub h j) (Nat.sub m j))) = some y := e8
          rw [fNat_eq] at e8
          injection e8 with e8
          subst e8
          refine ⟨.slice (some ⟨b, g + (f + j) * k, none⟩) (h - j) (m - j), ?_, by simp only [AV.rp]; exact ⟨b, g, c, hn, rfl⟩⟩
          have e9 : g + f * k + j * k = g + (f + j) * k := by rw [Nat.add_mul, Nat.add_assoc]
          simp [Instr.slice, run_underlying hu, hbd, run_szO h2, hmj, addr_add, e9]
      | _ => cases e
  | ptr n o =>
    dsimp only [cond] at e
    split at e
    · rename_i len el hu
      obtain ⟨k, h2, e⟩ := bind_some' e
      obtain ⟨m, e1, e⟩ := bind_some' e
      obtain ⟨h, e2, e⟩ := bind_some' e
      obtain ⟨j, e3, e⟩ := bind_some' e
      rw [fNat_eq, fNat_eq] at e
      simp only [AV.rp] at hx
      obtain ⟨b, f, c, hn, rfl⟩ := hx
      have hbd := bounds_snd (w := w) (P := P) (s := false) e1 e2 e3 hok2 hl hh hm
      by_cases hmj : m = j
      · rw [beq_t hmj] at e
        injection e with e
        subst e
        refine ⟨.slice (some ⟨b, f + o, none⟩) (h - j) (m - j), ?_, by simp only [AV.rp]; exact ⟨b, f, c, hn, rfl⟩⟩
        simp [Instr.sliceAt, Instr.sureAddr, run_underlying hu, hbd, run_szO h2, hmj]
      · rw [beq_f hmj] at e
        have e : fNat (Nat.add o (Nat.mul j k)) (fun o => some (AV.sl n o (Nat.sub h j) (Nat.sub m j))) = some y := e
        rw [fNat_eq] at e
        injection e with e
        subst e
        refine ⟨.slice (some ⟨b, f + (o + j * k), none⟩) (h - j) (m - j), ?_, by simp only [AV.rp]; exact ⟨b, f, c, hn, rfl⟩⟩
        simp [Instr.sliceAt, Instr.sureAddr, run_underlying hu, hbd, run_szO h2, hmj, addr_add, Nat.add_assoc]
    · cases e
  | _ => cases e
theorem osSl_snd {t : TypeId} {n z f len K g c b : Nat} {y : AV} {lo hi : Option AV} {vl vh : Option Value} (e : osSl P t n z f len K lo hi = some y) (hn : ρ n = some (b, g, c)) (hlK : len ≤ K) (hKc : f + K ≤ c) (hl : rpo ρ lo vl) (hh : rpo ρ hi vh) :
    ∃ u, (Instr.sliceAt t (.slice (some ⟨b, g + f * z, none⟩) len (c - f)) vl vh none).run P w = .ok u w ∧ y.rp ρ u := by
  obtain ⟨el, h1, e⟩ := bind_some' (show (elS P t).bind (fun el => (szO P el).bind fun k => bif Nat.beq k z then (bnd1 len hi K).bind fun h => (bnd1 0 lo h).bind fun l =>
    bif Nat.beq l 0 then some (.os n z f h) else bif Nat.beq h l then fNat (Nat.add f l) (fun e => some (.oe n z e)) else fNat (Nat.sub h l) fun len' => fNat (Nat.add f l) fun e => some (.os n z e len') else none) = some y from e)
  obtain ⟨k, h2, e⟩ := bind_some' e
  obtain ⟨hz, e5⟩ := bif_some e
  obtain rfl := Nat.eq_of_beq_eq_true hz
  obtain ⟨h, e2, e6⟩ := bind_some' e5
  obtain ⟨j, e3, e7⟩ := bind_some' e6
  have hu := elS_some h1
  have q2 : h ≤ K := by rcases bnd1_some e2 with ⟨_, h⟩ | ⟨_, _, h⟩ <;> omega
  have q3 : j ≤ h := by rcases bnd1_some e3 with ⟨_, h⟩ | ⟨_, _, h⟩ <;> omega
  have e2' : bnd1 len hi (c - f) = some h := by
    rcases bnd1_some e2 with ⟨rfl, rfl⟩ | ⟨kk, rfl, hle⟩
    · rfl
    · show inI (h : Int) (Nat.succ (c - f)) = some h
      show (bif Nat.blt h (Nat.succ (c - f)) then some h else none) = some h
      rw [blt_t (by omega)]; rfl
  have hbd := bounds_snd (w := w) (P := P) (s := true) (mx := none) (cap := c - f) (m := c - f) rfl e2' e3 (fun h => by cases h) hl hh (show rpo ρ none none from trivial)
  rw [sliceAt_other (fun n e hh => by rw [hu] at hh; cases hh) hu]
  by_cases hj0 : j = 0
  · rw [beq_t hj0] at e7
    injection e7 with e7
    subst e7 hj0
    refine ⟨.slice (some ⟨b, g + f * k, none⟩) h (c - f), ?_, by simp only [AV.rp]; exact ⟨b, g, c, hn, by omega, rfl⟩⟩
    simp [Instr.slice, run_underlying hu, hbd, run_szO h2, addr_add]
  · rw [beq_f hj0] at e7
    have e7 : (bif Nat.beq h j then fNat (Nat.add f j) (fun e => some (AV.oe n k e)) else fNat (Nat.sub h j) fun len' => fNat (Nat.add f j) fun e => some (AV.os n k e len')) = some y := e7
    by_cases hhj : h = j
    · rw [beq_t hhj] at e7
      have e7 : fNat (Nat.add f j) (fun e => some (AV.oe n k e)) = some y := e7
      rw [fNat_eq] at e7
      injection e7 with e7
      subst e7
      subst hhj
      by_cases hc : c - f = h
      · refine ⟨.slice (some ⟨b, g + f * k, none⟩) 0 (c - f - h), ?_, by simp only [AV.rp]; exact ⟨b, g, c, hn, by show f + h ≤ c; omega, .inr ⟨by show f + h = c; omega, _, by rw [show c - f - h = 0 by omega]⟩⟩⟩
        rw [hc] at hbd
        simp [Instr.slice, run_underlying hu, hbd, run_szO h2, hc]
      · refine ⟨.slice (some ⟨b, g + f * k + h * k, none⟩) 0 (c - f - h), ?_, by simp only [AV.rp]; exact ⟨b, g, c, hn, by show f + h ≤ c; omega, .inl ⟨by show f + h < c; omega, by show _ = Value.slice (some ⟨b, g + (f + h) * k, none⟩) 0 (c - (f + h)); rw [Nat.add_mul, Nat.add_assoc, Nat.sub_sub]⟩⟩⟩
        simp [Instr.slice, run_underlying hu, hbd, run_szO h2, hc, addr_add]
    · rw [beq_f hhj] at e7
      have e7 : (fNat (Nat.sub h j) fun len' => fNat (Nat.add f j) fun e => some (AV.os n k e len')) = some y := e7
      rw [fNat_eq, fNat_eq] at e7
      injection e7 with e7
      subst e7
      have hc : ¬ c - f = j := by omega
      refine ⟨.slice (some ⟨b, g + (f + j) * k, none⟩) (h - j) (c - (f + j)), ?_, by simp only [AV.rp]; exact ⟨b, g, c, hn, by show f + j + (h - j) ≤ c; omega, rfl⟩⟩
      have e9 : g + f * k + j * k = g + (f + j) * k := by rw [Nat.add_mul, Nat.add_assoc]
      have e10 : c - f - j = c - (f + j) := by omega
      simp [Instr.slice, run_underlying hu, hbd, run_szO h2, hc, addr_add, e9, e10]
theorem sliceM_snd {B lo0 : Nat} {h0 : Heap} {c0 : Nat} {lg0 : List Ev} {h' : Heap} {c' : Nat} {lg' : List Ev} {t : TypeId} {x y : AV} {lo hi mx : Option AV} {v : Value} {vl vh vm : Option Value} (e : sliceM P t x lo hi mx lo0 h0 c0 lg0 = .ok y h' c' lg') (hr : Rep B ρ h0 w) (hx : x.rp ρ v) (hl : rpo ρ lo vl) (hh : rpo ρ hi vh) (hm : rpo ρ mx vm) :
    h' = h0 ∧ ∃ u, (Instr.sliceAt t v vl vh vm).run P w = .ok u w ∧ y.rp ρ u := by
  have plain : ∀ {x : AV}, x.rp ρ v → need (sliceV P t x lo hi mx) 124 (fun x => ret x) lo0 h0 c0 lg0 = .ok y h' c' lg' → h' = h0 ∧ ∃ u, (Instr.sliceAt t v vl vh vm).run P w = .ok u w ∧ y.rp ρ u := fun hx e => by
    obtain ⟨r, h3, e⟩ := need_ok e
    obtain ⟨rfl, rfl, _, _⟩ := ret_ok e
    exact ⟨rfl, slice_snd h3 hx hl hh hm⟩
  unfold sliceM at e
  split at e
  · rename_i n z f len
    cases ho : overO hi len with
    | false => rw [ho] at e; exact plain hx e
    | true =>
      rw [ho, cond_true] at e
      obtain ⟨m, h1, c1, lg1, e1, e2⟩ := bnd_ok e
      obtain ⟨rfl, _, hmt⟩ := rdM_ok e1
      obtain ⟨hle, e2⟩ := want_ok e2
      rw [Nat.ble_eq] at hle
      obtain ⟨r, h3, e2⟩ := need_ok e2
      obtain ⟨rfl, rfl, _, _⟩ := ret_ok e2
      obtain rfl := rpo_none hm
      simp only [AV.rp] at hx
      obtain ⟨b, g, c, hn, hlc, rfl⟩ := hx
      refine ⟨rfl, osSl_snd h3 hn hle ?_ hl hh⟩
      unfold capK at hle ⊢
      split
      · rename_i el z2 sz hq
        by_cases hz : z2 = z
        · rw [beq_t hz, cond_true]
          subst hz
          obtain ⟨b', f', cc, o, k1, k2, k3, k4⟩ := hr.live n (by rw [hmt]; rfl)
          rw [hn] at k1
          injection k1 with k1
          injection k1 with k1 k5
          injection k5 with k5 k6
          subst k6
          rw [hmt] at k4
          obtain ⟨arr, fz, _, _, _, k7⟩ := k4
          obtain ⟨_, k8⟩ := k7 rfl
          have : Nat.div sz z2 ≤ c := by
            rcases Nat.eq_zero_or_pos z2 with h0 | h0
            · subst h0; show sz / 0 ≤ c; rw [Nat.div_zero]; omega
            · show sz / z2 ≤ c; exact Nat.div_le_of_le_mul (by rw [Nat.mul_comm]; exact k8)
          show f + (Nat.div sz z2 - f) ≤ c
          omega
        · rw [beq_f hz, cond_false]; omega
      · omega
  · exact plain hx e
end
end Go.Proofs.YtdflkikhmngfiaaDoor

