/- EyP · EyQ: joined by a program, for a claim has at most 60 files. -/
import Derived.Test.YtdflkikhmngfiaaGreatDoorZ07
import Derived.IntWalk
/- The machine's slices of slices and literals, in the program. -/
namespace Go.Proofs.YtdflkikhmngfiaaGreatDoor
open Go.RowKit
set_option linter.unusedVariables false
set_option linter.unusedSimpArgs false
set_option linter.unusedSectionVars false
variable [Sy] [Dc] [DcOK]

section
variable {P : Program} {ρ : Pm} {w : World}
theorem okm_spec {hi mx : Option AV} (h : okm hi mx = true) : mx.isSome = true → hi.isSome = true := by
  cases hi <;> cases mx <;> simp_all [okm]
theorem sliceV_if {t : TypeId} {x : AV} {lo hi mx : Option AV} {y : AV} (e : sliceV P t x lo hi mx = some y) : okm hi mx = true := by
  unfold sliceV at e
  cases h : okm hi mx with
  | true => rfl
  | false => rw [h] at e; cases e
theorem sliceAt_other {t : TypeId} (hu : ∀ n e, P.underlying t ≠ some (.array n e)) {d : TypeDesc} (hd : P.underlying t = some d) (v : Value) (l h m : Option Value) : (Instr.sliceAt t v l h m).run P w = (Instr.slice t v l h m).run P w := by
  unfold Instr.sliceAt
  simp only [Sem.run_bind, run_underlying hd, Result.andThen_ok]
  cases d with
  | array n e => exact absurd hd (hu n e)
  | _ => rfl
theorem slice_snd {t : TypeId} {x y : AV} {lo hi mx : Option AV} {v : Value} {vl vh vm : Option Value} (e : sliceV P t x lo hi mx = some y) (hx : x.rp ρ v) (hl : rpo ρ lo vl) (hh : rpo ρ hi vh) (hm : rpo ρ mx vm) : ∃ u, (Instr.sliceAt t v vl vh vm).run P w = .ok u w ∧ y.rp ρ u := by
  have hok := sliceV_if e
  have hok2 := okm_spec hok
  unfold sliceV at e
  rw [hok] at e
  cases x with
  | str l =>
    dsimp only [cond] at e
    split at e
    · rename_i hu
      rw [fNat_eq] at e
      obtain ⟨h, e2, e⟩ := bind_some' e
      obtain ⟨j, e3, e⟩ := bind_some' e
      rw [sv_eq, takeL_eq, dropL_eq] at e
      injection e with e
      subst e
      simp only [AV.rp] at hx
      obtain ⟨hb, rfl⟩ := hx
      have hs : (bytesOf l).size = lenL l := by rw [lenL_eq, bytesOf_size]
      have hbd := bounds_snd (w := w) (P := P) (s := false) (len := (bytesOf l).size) (cap := (bytesOf l).size) (mx := none) (m := (bytesOf l).size) rfl (hs ▸ e2) e3 (fun h => by cases h) hl hh (show rpo ρ none none from trivial)
      obtain rfl := rpo_none hm
      refine ⟨.string ((bytesOf l).extract j h), ?_, ?_⟩
      · rw [sliceAt_other (fun n e hh => by rw [hu] at hh; cases hh) hu]
        simp [Instr.slice, run_underlying hu, hbd]
      · simp only [AV.rp]
        refine ⟨fun x hx => hb x (List.mem_of_mem_drop (List.mem_of_mem_take hx)), ?_⟩
        congr 1
        apply Go.WideShapes.bytes_inj
        rw [bytesOf_toList, List.map_take, List.map_drop]
        show ((bytesOf l).extract j h).data.toList = _
        rw [ByteArray.data_extract]
        rw [Array.toList_extract, List.extract_eq_take_drop, bytesOf_toList]
        rfl
    · cases e
  | nils =>
    obtain ⟨el, h1, e⟩ := bind_some' (show (elS P t).bind (fun e => (szO P e).bind fun _ => (bnd1 0 mx 0).bind fun m => (bnd1 0 hi m).bind fun h => (bnd1 0 lo h).bind fun _ => some .nils) = some y from e)
    obtain ⟨k, h2, e⟩ := bind_some' e
    obtain ⟨m, e1, e⟩ := bind_some' e
    obtain ⟨h, e2, e⟩ := bind_some' e
    obtain ⟨j, e3, e⟩ := bind_some' e
    injection e with e
    subst e
    simp only [AV.rp] at hx
    subst hx
    have hu := elS_some h1
    have hbd := bounds_snd (w := w) (P := P) (s := true) e1 e2 e3 hok2 hl hh hm
    have m0 : m = 0 := by rcases bnd1_some e1 with ⟨_, h⟩ | ⟨_, _, h⟩ <;> omega
    have h0 : h = 0 := by rcases bnd1_some e2 with ⟨_, h⟩ | ⟨_, _, h⟩ <;> omega
    have j0 : j = 0 := by rcases bnd1_some e3 with ⟨_, h⟩ | ⟨_, _, h⟩ <;> omega
    subst m0 h0 j0
    refine ⟨.slice none 0 0, ?_, by simp only [AV.rp]⟩
    rw [sliceAt_other (fun n e hh => by rw [hu] at hh; cases hh) hu]
    simp [Instr.slice, run_underlying hu, hbd, run_szO h2]
  | emp =>
    dsimp only [cond] at e
    simp only [AV.rp] at hx
    obtain ⟨a, c, rfl⟩ := hx
    cases mx with
    | none =>
      obtain ⟨el, h1, e⟩ := bind_some' (show (elS P t).bind (fun e => (szO P e).bind fun _ => (bnd1 0 hi 0).bind fun h => (bnd1 0 lo h).bind fun _ => some .emp) = some y from e)
      obtain ⟨k, h2, e⟩ := bind_some' e
      obtain ⟨h, e2, e⟩ := bind_some' e
      obtain ⟨j, e3, e⟩ := bind_some' e
      injection e with e
      subst e
      have hu := elS_some h1
      obtain rfl := rpo_none hm
      have h0 : h = 0 := by rcases bnd1_some e2 with ⟨_, h⟩ | ⟨_, _, h⟩ <;> omega
      have j0 : j = 0 := by rcases bnd1_some e3 with ⟨_, h⟩ | ⟨_, _, h⟩ <;> omega
      subst h0 j0
      have e2' : bnd1 0 hi c = some 0 := by
        rcases bnd1_some e2 with ⟨rfl, _⟩ | ⟨kk, rfl, hle⟩
        · rfl
        · show inI ((0 : Nat) : Int) (Nat.succ c) = some 0
          show (bif Nat.blt 0 (Nat.succ c) then some 0 else none) = some 0
          rw [blt_t (by omega)]; rfl
      have hbd := bounds_snd (w := w) (P := P) (s := true) (mx := none) (cap := c) (m := c) rfl e2' e3 (fun h => by cases h) hl hh (show rpo ρ none none from trivial)
      rw [sliceAt_other (fun n e hh => by rw [hu] at hh; cases hh) hu]
      by_cases hc : c = 0
      · subst hc
        exact ⟨.slice (some a) 0 0, by simp [Instr.slice, run_underlying hu, hbd, run_szO h2], by simp only [AV.rp]; exact ⟨_, _, rfl⟩⟩
      · exact ⟨.slice (some a) 0 c, by simp [Instr.slice, run_underlying hu, hbd, run_szO h2, hc, Addr.add], by simp only [AV.rp]; exact ⟨_, _, rfl⟩⟩
    | some _ => cases e
  | oe n9 z9 f9 =>
    dsimp only [cond] at e
    have hx9 := hx
    obtain ⟨a, c, rfl⟩ := oe_emp hx
    cases mx with
    | none =>
      obtain ⟨el, h1, e⟩ := bind_some' (show (elS P t).bind (fun e => (szO P e).bind fun _ => (bnd1 0 hi 0).bind fun h => (bnd1 0 lo h).bind fun _ => some (.oe n9 z9 f9)) = some y from e)
      obtain ⟨k, h2, e⟩ := bind_some' e
      obtain ⟨h, e2, e⟩ := bind_some' e
      obtain ⟨j, e3, e⟩ := bind_some' e
      injection e with e
      subst e
      have hu := elS_some h1
      obtain rfl := rpo_none hm
      have h0 : h = 0 := by rcases bnd1_some e2 with ⟨_, h⟩ | ⟨_, _, h⟩ <;> omega
      have j0 : j = 0 := by rcases bnd1_some e3 with ⟨_, h⟩ | ⟨_, _, h⟩ <;> omega
      subst h0 j0
      have e2' : bnd1 0 hi c = some 0 := by
        rcases bnd1_some e2 with ⟨rfl, _⟩ | ⟨kk, rfl, hle⟩
        · rfl
        · show inI ((0 : Nat) : Int) (Nat.succ c) = some 0
          show (bif Nat.blt 0 (Nat.succ c) then some 0 else none) = some 0
          rw [blt_t (by omega)]; rfl
      have hbd := bounds_snd (w := w) (P := P) (s := true) (mx := none) (cap := c) (m := c) rfl e2' e3 (fun h => by cases h) hl hh (show rpo ρ none none from trivial)
      rw [sliceAt_other (fun n e hh => by rw [hu] at hh; cases hh) hu]
      by_cases hc : c = 0
      · subst hc
        exact ⟨.slice (some a) 0 0, by simp [Instr.slice, run_underlying hu, hbd, run_szO h2], hx9⟩
      · exact ⟨.slice (some a) 0 c, by simp [Instr.slice, run_underlying hu, hbd, run_szO h2, hc, Addr.add], hx9⟩
    | some _ => cases e
  | sl n o len cap =>
    obtain ⟨el, h1, e⟩ := bind_some' (show (elS P t).bind (fun e => (szO P e).bind fun k => (bnd1 cap mx cap).bind fun m => (bnd1 len hi m).bind fun h => (bnd1 0 lo h).bind fun l =>
      fNat (Nat.sub h l) fun len' => fNat (Nat.sub m l) fun cap' => bif Nat.beq m l then some (.sl n o len' cap') else fNat (Nat.add o (Nat.mul l k)) fun o => some (.sl n o len' cap')) = some y from e)
    obtain ⟨k, h2, e⟩ := bind_some' e
    obtain ⟨m, e1, e⟩ := bind_some' e
    obtain ⟨h, e2, e⟩ := bind_some' e
    obtain ⟨j, e3, e⟩ := bind_some' e
    rw [fNat_eq, fNat_eq] at e
    simp only [AV.rp] at hx
    obtain ⟨b, f, c, hn, rfl⟩ := hx
    have hu := elS_some h1
    have hbd := bounds_snd (w := w) (P := P) (s := true) e1 e2 e3 hok2 hl hh hm
    rw [sliceAt_other (fun n e hh => by rw [hu] at hh; cases hh) hu]
    by_cases hmj : m = j
    · rw [beq_t hmj] at e
      injection e with e
      subst e
      refine ⟨.slice (some ⟨b, f + o, none⟩) (h - j) (m - j), ?_, by simp only [AV.rp]; exact ⟨b, f, c, hn, rfl⟩⟩
      simp [Instr.slice, run_underlying hu, hbd, run_szO h2, hmj]
    · rw [beq_f hmj] at e
      have e : fNat (Nat.add o (Nat.mul j k)) (fun o => some (AV.sl n o (Nat.sub h j) (Nat.sub m j))) = some y := e
      rw [fNat_eq] at e
      injection e with e
      subst e
      refine ⟨.slice (some ⟨b, f + (o + j * k), none⟩) (h - j) (m - j), ?_, by simp only [AV.rp]; exact ⟨b, f, c, hn, rfl⟩⟩
      simp [Instr.slice, run_underlying hu, hbd, run_szO h2, hmj, addr_add, Nat.add_assoc]
  | os n z f len =>
    dsimp only [cond] at e
    simp only [AV.rp] at hx
    obtain ⟨b, g, c, hn, hlc, rfl⟩ := hx
    cases mx with
    | none =>
      obtain ⟨el, h1, e⟩ := bind_some' (show (elS P t).bind (fun el => (szO P el).bind fun k => bif Nat.beq k z then (bnd1 len hi len).bind fun h => (bnd1 0 lo h).bind fun l =>
        bif Nat.beq l 0 then some (.os n z f h) else bif Nat.beq h l then fNat (Nat.add f l) (fun e => some (.oe n z e)) else fNat (Nat.sub h l) fun len' => fNat (Nat.add f l) fun e => some (.os n z e len') else none) = some y from e)
      obtain ⟨k, h2, e⟩ := bind_some' e
      obtain ⟨hz, e5⟩ := bif_some e
      obtain rfl := Nat.eq_of_beq_eq_true hz
      obtain ⟨h, e2, e6⟩ := bind_some' e5
      obtain ⟨j, e3, e7⟩ := bind_some' e6
      have hu := elS_some h1
      obtain rfl := rpo_none hm
      have q2 : h ≤ len := by rcases bnd1_some e2 with ⟨_, h⟩ | ⟨_, _, h⟩ <;> omega
      have q3 : j ≤ h := by rcases bnd1_some e3 with ⟨_, h⟩ | ⟨_, _, h⟩ <;> omega
      have e2' : bnd1 len hi (c - f) = some h := by
        rcases bnd1_some e2 with ⟨rfl, rfl⟩ | ⟨kk, rfl, hle⟩
        · rfl
        · show inI (h : Int) (Nat.succ (c - f)) = some h
          show (bif Nat.blt h (Nat.succ (c - f)) then some h else none) = some h
          rw [blt_t (by omega)]; rfl
      have hbd := bounds_snd (w := w) (P := P) (s := true) (mx := none) (cap := c - f) (m := c - f) rfl e2' e3 (fun h => by cases h) hl hh (show rpo ρ none none from trivial)
      rw [sliceAt_other (fun n e hh => by rw [hu] at hh; cases hh) hu]
      by_cases hj0 : j = 0
      · rw [beq_t hj0] at e7
        injection e7 with e7
        subst e7 hj0
        refine ⟨.slice (some ⟨b, g + f * k, none⟩) h (c - f), ?_, by simp only [AV.rp]; exact ⟨b, g, c, hn, by omega, rfl⟩⟩
        simp [Instr.slice, run_underlying hu, hbd, run_szO h2, addr_add]
      · rw [beq_f hj0] at e7
        have e7 : (bif Nat.beq h j then fNat (Nat.add f j) (fun e => some (AV.oe n k e)) else fNat (Nat.sub h j) fun len' => fNat (Nat.add f j) fun e => some (AV.os n k e len')) = some y := e7
        by_cases hhj : h = j
        · rw [beq_t hhj] at e7
          have e7 : fNat (Nat.add f j) (fun e => some (AV.oe n k e)) = some y := e7
          rw [fNat_eq] at e7
          injection e7 with e7
          subst e7
          subst hhj
          by_cases hc : c - f = h
          · refine ⟨.slice (some ⟨b, g + f * k, none⟩) 0 (c - f - h), ?_, by simp only [AV.rp]; exact ⟨b, g, c, hn, by show f + h ≤ c; omega, .inr ⟨by show f + h = c; omega, _, by rw [show c - f - h = 0 by omega]⟩⟩⟩
            rw [hc] at hbd
            simp [Instr.slice, run_underlying hu, hbd, run_szO h2, hc]
          · refine ⟨.slice (some ⟨b, g + f * k + h * k, none⟩) 0 (c - f - h), ?_, by simp only [AV.rp]; exact ⟨b, g, c, hn, by show f + h ≤ c; omega, .inl ⟨by show f + h < c; omega, by show _ = Value.slice (some ⟨b, g + (f + h) * k, none⟩) 0 (c - (f + h)); rw [Nat.add_mul, Nat.add_assoc, Nat.sub_sub]⟩⟩⟩
            simp [Instr.slice, run_underlying hu, hbd, run_szO h2, hc, addr_add]
        · rw [beq_f hhj] at e7
          have e7 : (fNat (Nat.sub h j) fun len' => fNat (Nat.add f j) fun e => some (AV.os n k e len')) = some y := e7
          rw [fNat_eq, fNat_eq] at e7
          injection e7 with e7
          subst e7
          have hc : ¬ c - f = j := by omega
          refine ⟨.slice (some ⟨b, g + (f + j) * k, none⟩) (h - j) (c - (f + j)), ?_, by simp only [AV.rp]; exact ⟨b, g, c, hn, by show f + j + (h - j) ≤ c; omega, rfl⟩⟩
          have e9 : g + f * k + j * k = g + (f + j) * k := by rw [Nat.add_mul, Nat.add_assoc]
          have e10 : c - f - j = c - (f + j) := by omega
          simp [Instr.slice, run_underlying hu, hbd, run_szO h2, hc, addr_add, e9, e10]
    | some mv =>
      cases mv with
      | int kk i =>
        obtain ⟨el, h1, e⟩ := bind_some' (show (elS P t).bind (fun el => (szO P el).bind fun k => bif Nat.beq k z then (inI i (Nat.succ len)).bind fun m => (bnd1 len hi m).bind fun h => (bnd1 0 lo h).bind fun l =>
          fNat (Nat.sub h l) fun len' => fNat (Nat.sub m l) fun cap' => bif Nat.beq m l then fNat (Nat.mul f k) fun o => some (.sl n o len' cap') else fNat (Nat.mul (Nat.add f l) k) fun o => some (.sl n o len' cap') else none) = some y from e)
        obtain ⟨k, h2, e⟩ := bind_some' e
        obtain ⟨hz, e5⟩ := bif_some e
        obtain rfl := Nat.eq_of_beq_eq_true hz
        obtain ⟨m, e1, e6⟩ := bind_some' e5
        obtain ⟨h, e2, e7⟩ := bind_some' e6
        obtain ⟨j, e3, e8⟩ := bind_some' e7
        rw [fNat_eq, fNat_eq] at e8
        have hu := elS_some h1
        obtain ⟨rfl, hmlt⟩ := inI_some e1
        have e1' : bnd1 (c - f) (some (.int kk (m : Int))) (c - f) = some m := by
          show (bif Nat.blt m (Nat.succ (c - f)) then some m else none) = some m
          rw [blt_t (by omega)]; rfl
        have hbd := bounds_snd (w := w) (P := P) (s := true) (cap := c - f) e1' e2 e3 hok2 hl hh hm
        rw [sliceAt_other (fun n e hh => by rw [hu] at hh; cases hh) hu]
        by_cases hmj : m = j
        · rw [beq_t hmj] at e8
          have e8 : fNat (Nat.mul f k) (fun o => some (AV.sl n o (Nat.sub h j) (Nat.sub m j))) = some y := e8
          rw [fNat_eq] at e8
          injection e8 with e8
          subst e8
          refine ⟨.slice (some ⟨b, g + f * k, none⟩) (h - j) (m - j), ?_, by simp only [AV.rp]; exact ⟨b, g, c, hn, rfl⟩⟩
          simp [Instr.slice, run_underlying hu, hbd, run_szO h2, hmj]
        · rw [beq_f hmj] at e8
          have e8 : fNat (Nat.mul (Nat.add f j) k) (fun o => some (AV.sl n o (Nat.sub h j) (Nat.sub m j))) = some y := e8
          rw [fNat_eq] at e8
          injection e8 with e8
          subst e8
          refine ⟨.slice (some ⟨b, g + (f + j) * k, none⟩) (h - j) (m - j), ?_, by simp only [AV.rp]; exact ⟨b, g, c, hn, rfl⟩⟩
          have e9 : g + f * k + j * k = g + (f + j) * k := by rw [Nat.add_mul, Nat.add_assoc]
          simp [Instr.slice, run_underlying hu, hbd, run_szO h2, hmj, addr_add, e9]
      | _ => cases e
  | ptr n o =>
    dsimp only [cond] at e
    split at e
    · rename_i len el hu
      obtain ⟨k, h2, e⟩ := bind_some' e
      obtain ⟨m, e1, e⟩ := bind_some' e
      obtain ⟨h, e2, e⟩ := bind_some' e
      obtain ⟨j, e3, e⟩ := bind_some' e
      rw [fNat_eq, fNat_eq] at e
      simp only [AV.rp] at hx
      obtain ⟨b, f, c, hn, rfl⟩ := hx
      have hbd := bounds_snd (w := w) (P := P) (s := false) e1 e2 e3 hok2 hl hh hm
      by_cases hmj : m = j
      · rw [beq_t hmj] at e
        injection e with e
        subst e
        refine ⟨.slice (some ⟨b, f + o, none⟩) (h - j) (m - j), ?_, by simp only [AV.rp]; exact ⟨b, f, c, hn, rfl⟩⟩
        simp [Instr.sliceAt, Instr.sureAddr, run_underlying hu, hbd, run_szO h2, hmj]
      · rw [beq_f hmj] at e
        have e : fNat (Nat.add o (Nat.mul j k)) (fun o => some (AV.sl n o (Nat.sub h j) (Nat.sub m j))) = some y := e
        rw [fNat_eq] at e
        injection e with e
        subst e
        refine ⟨.slice (some ⟨b, f + (o + j * k), none⟩) (h - j) (m - j), ?_, by simp only [AV.rp]; exact ⟨b, f, c, hn, rfl⟩⟩
        simp [Instr.sliceAt, Instr.sureAddr, run_underlying hu, hbd, run_szO h2, hmj, addr_add, Nat.add_assoc]
    · cases e
  | _ => cases e
theorem osSl_snd {t : TypeId} {n z f len K g c b : Nat} {y : AV} {lo hi : Option AV} {vl vh : Option Value} (e : osSl P t n z f len K lo hi = some y) (hn : ρ n = some (b, g, c)) (hlK : len ≤ K) (hKc : f + K ≤ c) (hl : rpo ρ lo vl) (hh : rpo ρ hi vh) :
    ∃ u, (Instr.sliceAt t (.slice (some ⟨b, g + f * z, none⟩) len (c - f)) vl vh none).run P w = .ok u w ∧ y.rp ρ u := by
  obtain ⟨el, h1, e⟩ := bind_some' (show (elS P t).bind (fun el => (szO P el).bind fun k => bif Nat.beq k z then (bnd1 len hi K).bind fun h => (bnd1 0 lo h).bind fun l =>
    bif Nat.beq l 0 then some (.os n z f h) else bif Nat.beq h l then fNat (Nat.add f l) (fun e => some (.oe n z e)) else fNat (Nat.sub h l) fun len' => fNat (Nat.add f l) fun e => some (.os n z e len') else none) = some y from e)
  obtain ⟨k, h2, e⟩ := bind_some' e
  obtain ⟨hz, e5⟩ := bif_some e
  obtain rfl := Nat.eq_of_beq_eq_true hz
  obtain ⟨h, e2, e6⟩ := bind_some' e5
  obtain ⟨j, e3, e7⟩ := bind_some' e6
  have hu := elS_some h1
  have q2 : h ≤ K := by rcases bnd1_some e2 with ⟨_, h⟩ | ⟨_, _, h⟩ <;> omega
  have q3 : j ≤ h := by rcases bnd1_some e3 with ⟨_, h⟩ | ⟨_, _, h⟩ <;> omega
  have e2' : bnd1 len hi (c - f) = some h := by
    rcases bnd1_some e2 with ⟨rfl, rfl⟩ | ⟨kk, rfl, hle⟩
    · rfl
    · show inI (h : Int) (Nat.succ (c - f)) = some h
      show (bif Nat.blt h (Nat.succ (c - f)) then some h else none) = some h
      rw [blt_t (by omega)]; rfl
  have hbd := bounds_snd (w := w) (P := P) (s := true) (mx := none) (cap := c - f) (m := c - f) rfl e2' e3 (fun h => by cases h) hl hh (show rpo ρ none none from trivial)
  rw [sliceAt_other (fun n e hh => by rw [hu] at hh; cases hh) hu]
  by_cases hj0 : j = 0
  · rw [beq_t hj0] at e7
    injection e7 with e7
    subst e7 hj0
    refine ⟨.slice (some ⟨b, g + f * k, none⟩) h (c - f), ?_, by simp only [AV.rp]; exact ⟨b, g, c, hn, by omega, rfl⟩⟩
    simp [Instr.slice, run_underlying hu, hbd, run_szO h2, addr_add]
  · rw [beq_f hj0] at e7
    have e7 : (bif Nat.beq h j then fNat (Nat.add f j) (fun e => some (AV.oe n k e)) else fNat (Nat.sub h j) fun len' => fNat (Nat.add f j) fun e => some (AV.os n k e len')) = some y := e7
    by_cases hhj : h = j
    · rw [beq_t hhj] at e7
      have e7 : fNat (Nat.add f j) (fun e => some (AV.oe n k e)) = some y := e7
      rw [fNat_eq] at e7
      injection e7 with e7
      subst e7
      subst hhj
      by_cases hc : c - f = h
      · refine ⟨.slice (some ⟨b, g + f * k, none⟩) 0 (c - f - h), ?_, by simp only [AV.rp]; exact ⟨b, g, c, hn, by show f + h ≤ c; omega, .inr ⟨by show f + h = c; omega, _, by rw [show c - f - h = 0 by omega]⟩⟩⟩
        rw [hc] at hbd
        simp [Instr.slice, run_underlying hu, hbd, run_szO h2, hc]
      · refine ⟨.slice (some ⟨b, g + f * k + h * k, none⟩) 0 (c - f - h), ?_, by simp only [AV.rp]; exact ⟨b, g, c, hn, by show f + h ≤ c; omega, .inl ⟨by show f + h < c; omega, by show _ = Value.slice (some ⟨b, g + (f + h) * k, none⟩) 0 (c - (f + h)); rw [Nat.add_mul, Nat.add_assoc, Nat.sub_sub]⟩⟩⟩
        simp [Instr.slice, run_underlying hu, hbd, run_szO h2, hc, addr_add]
    · rw [beq_f hhj] at e7
      have e7 : (fNat (Nat.sub h j) fun len' => fNat (Nat.add f j) fun e => some (AV.os n k e len')) = some y := e7
      rw [fNat_eq, fNat_eq] at e7
      injection e7 with e7
      subst e7
      have hc : ¬ c - f = j := by omega
      refine ⟨.slice (some ⟨b, g + (f + j) * k, none⟩) (h - j) (c - (f + j)), ?_, by simp only [AV.rp]; exact ⟨b, g, c, hn, by show f + j + (h - j) ≤ c; omega, rfl⟩⟩
      have e9 : g + f * k + j * k = g + (f + j) * k := by rw [Nat.add_mul, Nat.add_assoc]
      have e10 : c - f - j = c - (f + j) := by omega
      simp [Instr.slice, run_underlying hu, hbd, run_szO h2, hc, addr_add, e9, e10]
theorem sliceM_snd {B lo0 : Nat} {h0 : Heap} {c0 : Nat} {lg0 : List Ev} {h' : Heap} {c' : Nat} {lg' : List Ev} {t : TypeId} {x y : AV} {lo hi mx : Option AV} {v : Value} {vl vh vm : Option Value} (e : sliceM P t x lo hi mx lo0 h0 c0 lg0 = .ok y h' c' lg') (hr : Rep B ρ h0 w) (hx : x.rp ρ v) (hl : rpo ρ lo vl) (hh : rpo ρ hi vh) (hm : rpo ρ mx vm) :
    h' = h0 ∧ ∃ u, (Instr.sliceAt t v vl vh vm).run P w = .ok u w ∧ y.rp ρ u := by
  have plain : ∀ {x : AV}, x.rp ρ v → need (sliceV P t x lo hi mx) 124 (fun x => ret x) lo0 h0 c0 lg0 = .ok y h' c' lg' → h' = h0 ∧ ∃ u, (Instr.sliceAt t v vl vh vm).run P w = .ok u w ∧ y.rp ρ u := fun hx e => by
    obtain ⟨r, h3, e⟩ := need_ok e
    obtain ⟨rfl, rfl, _, _⟩ := ret_ok e
    exact ⟨rfl, slice_snd h3 hx hl hh hm⟩
  unfold sliceM at e
  split at e
  · rename_i n z f len
    cases ho : overO hi len with
    | false => rw [ho] at e; exact plain hx e
    | true =>
      rw [ho, cond_true] at e
      obtain ⟨m, h1, c1, lg1, e1, e2⟩ := bnd_ok e
      obtain ⟨rfl, _, hmt⟩ := rdM_ok e1
      obtain ⟨hle, e2⟩ := want_ok e2
      rw [Nat.ble_eq] at hle
      obtain ⟨r, h3, e2⟩ := need_ok e2
      obtain ⟨rfl, rfl, _, _⟩ := ret_ok e2
      obtain rfl := rpo_none hm
      simp only [AV.rp] at hx
      obtain ⟨b, g, c, hn, hlc, rfl⟩ := hx
      refine ⟨rfl, osSl_snd h3 hn hle ?_ hl hh⟩
      unfold capK at hle ⊢
      split
      · rename_i el z2 sz hq
        by_cases hz : z2 = z
        · rw [beq_t hz, cond_true]
          subst hz
          obtain ⟨b', f', cc, o, k1, k2, k3, k4⟩ := hr.live n (by rw [hmt]; rfl)
          rw [hn] at k1
          injection k1 with k1
          injection k1 with k1 k5
          injection k5 with k5 k6
          subst k6
          rw [hmt] at k4
          obtain ⟨arr, fz, _, _, _, k7⟩ := k4
          obtain ⟨_, k8⟩ := k7 rfl
          have : Nat.div sz z2 ≤ c := by
            rcases Nat.eq_zero_or_pos z2 with h0 | h0
            · subst h0; show sz / 0 ≤ c; rw [Nat.div_zero]; omega
            · show sz / z2 ≤ c; exact Nat.div_le_of_le_mul (by rw [Nat.mul_comm]; exact k8)
          show f + (Nat.div sz z2 - f) ≤ c
          omega
        · rw [beq_f hz, cond_false]; omega
      · omega
  · exact plain hx e
end
end Go.Proofs.YtdflkikhmngfiaaGreatDoor


/- The machine's literals and made slices, in the program. -/
namespace Go.Proofs.YtdflkikhmngfiaaGreatDoor
open Go.RowKit
set_option linter.unusedVariables false
set_option linter.unusedSimpArgs false
set_option linter.unusedSectionVars false
variable [Sy] [Dc] [DcOK]

theorem repL_succ {α : Type} (n : Nat) (l : List α) : repL (n + 1) l = l ++ repL n l := appL_eq l (repL n l)
theorem repL_len {α : Type} (l : List α) : ∀ n, (repL n l).length = n * l.length
  | 0 => by rw [Nat.zero_mul]; rfl
  | n + 1 => by rw [repL_succ, List.length_append, repL_len l n, Nat.succ_mul, Nat.add_comm]
theorem repL_get {α : Type} (l : List α) : ∀ n i, i < n * l.length → (repL n l)[i]? = l[i % l.length]?
  | 0, i, h => by omega
  | n + 1, i, h => by
    rw [repL_succ]
    rw [Nat.succ_mul] at h
    by_cases hi : i < l.length
    · rw [List.getElem?_append_left hi, Nat.mod_eq_of_lt hi]
    · rw [List.getElem?_append_right (by omega), repL_get l n _ (by omega)]
      congr 1
      exact (Nat.mod_eq_sub_mod (by omega)).symm
theorem zeros_rps {ρ : Pm} {l : List AV} {z : Array Value} (h : AV.rps ρ l z.toList) (n k : Nat) (hk : l.length = k) : AV.rps ρ (repL n l) ((Array.range (n * k)).map (z[· % z.size]!)).toList := by
  have hl := rps_length h
  simp at hl
  refine rps_at.2 ⟨by rw [repL_len]; simp [hk], fun i x hx => ?_⟩
  have hi : i < n * l.length := by rw [← repL_len]; exact (List.getElem?_eq_some_iff.1 hx).1
  rw [repL_get l n i hi] at hx
  obtain ⟨v, h1, h2⟩ := (rps_at.1 h).2 _ x hx
  refine ⟨v, ?_, h2⟩
  have h1 : z[i % z.size]? = some v := by rw [← hl]; simpa using h1
  have hlt : i % z.size < z.size := (Array.getElem?_eq_some_iff.1 h1).1
  have : i < n * k := by rw [← hk]; exact hi
  simp [this, getElem!_pos, hlt, (Array.getElem?_eq_some_iff.1 h1).2]
/-- Cells in a trie are the array's. -/
def TRel (ρ : Pm) (n : Nat) (t : Tr AV) (arr : Array Value) : Prop := arr.size = n ∧ ∀ i, i < n → ∃ x v, t.get i = some x ∧ arr[i]? = some v ∧ x.rp ρ v
theorem TRel.ofList {ρ : Pm} {l : List AV} {arr : Array Value} (h : AV.rps ρ l arr.toList) : TRel ρ l.length (Tr.ofList l) arr := by
  have hl := rps_length h
  simp at hl
  refine ⟨hl.symm, fun i hi => ?_⟩
  obtain ⟨x, hx⟩ : ∃ x, l[i]? = some x := ⟨l[i], List.getElem?_eq_getElem hi⟩
  obtain ⟨v, h1, h2⟩ := (rps_at.1 h).2 i x hx
  exact ⟨x, v, by rw [Tr.get_ofList]; exact hx, by simpa using h1, h2⟩
theorem TRel.list {ρ : Pm} {n : Nat} {t : Tr AV} {arr : Array Value} (h : TRel ρ n t arr) {l : List AV} (e : t.list n 0 = some l) : AV.rps ρ l arr.toList := by
  obtain ⟨h1, h2⟩ := Tr.list_spec t n 0 l e
  refine rps_at.2 ⟨by simp [h1, h.1], fun i x hx => ?_⟩
  have hi : i < n := by have := (List.getElem?_eq_some_iff.1 hx).1; omega
  obtain ⟨y, v, h3, h4, h5⟩ := h.2 i hi
  have := h2 i hi
  rw [Nat.zero_add, h3, hx] at this
  injection this with this
  subst this
  exact ⟨v, by simpa using h4, h5⟩
theorem fold_get (off : Nat) : ∀ (l : List Value) (k : Nat) (arr : Array Value), ((l.zipIdx k).foldl (fun cs p => cs.setIfInBounds (off + p.2) p.1) arr).size = arr.size ∧ ∀ i, ((l.zipIdx k).foldl (fun cs p => cs.setIfInBounds (off + p.2) p.1) arr)[i]? = if off + k ≤ i ∧ i < off + k + l.length ∧ i < arr.size then l[i - (off + k)]? else arr[i]?
  | [], k, arr => ⟨rfl, fun i => by rw [if_neg (by simp only [List.length_nil]; omega)]; rfl⟩
  | v :: l, k, arr => by
    rw [List.zipIdx_cons, List.foldl_cons]
    obtain ⟨h1, h2⟩ := fold_get off l (k + 1) (arr.setIfInBounds (off + k) v)
    refine ⟨by rw [h1]; simp, fun i => ?_⟩
    rw [h2 i, Array.size_setIfInBounds, Array.getElem?_setIfInBounds, List.length_cons]
    by_cases hi : off + (k + 1) ≤ i ∧ i < off + (k + 1) + l.length ∧ i < arr.size
    · rw [if_pos hi, if_pos (by omega), show i - (off + k) = (i - (off + (k + 1))) + 1 by omega, List.getElem?_cons_succ]
    · rw [if_neg hi]
      by_cases he : off + k = i
      · rw [if_pos he]
        by_cases hs : off + k < arr.size
        · rw [if_pos hs, if_pos (by omega), show i - (off + k) = 0 by omega]; rfl
        · rw [if_neg hs, if_neg (by omega)]
          rw [Array.getElem?_eq_none (by omega)]
      · rw [if_neg he, if_neg (by omega)]
def prel (ρ : Pm) : List (Nat × AV) → List (Nat × Value) → Prop
  | [], m => m = []
  | p :: l, m => ∃ v m', m = (p.1, v) :: m' ∧ p.2.rp ρ v ∧ prel ρ l m'
theorem layL_cons (n : Nat) (f : Nat → Option (Nat × Nat)) (p : Nat × AV) (ps : List (Nat × AV)) (t : Tr AV) : layL n f (p :: ps) t = (f p.1).bind fun q => bif Nat.beq (lenL p.2.cells) q.2 && (Nat.ble (Nat.add q.1 q.2) n && notup p.2) then layL n f ps (Tr.fill p.2.cells q.1 t) else none := rfl
theorem notup_ne {x : AV} (h : notup x = true) : ∀ l, x ≠ .tup l := fun l e => by subst e; cases h
theorem fill_snd {ρ : Pm} {n : Nat} {f place : Nat → Option (Nat × Nat)} (hp : ∀ i q, f i = some q → place i = some q) : ∀ {ps : List (Nat × AV)} {vs : List (Nat × Value)} {t t' : Tr AV} {arr : Array Value}, layL n f ps t = some t' → prel ρ ps vs → TRel ρ n t arr → ∃ arr', Instr.fill place arr vs = some arr' ∧ TRel ρ n t' arr'
  | [], vs, t, t', arr, e, hv, ht => by
    have e : some t = some t' := e
    injection e with e
    subst e
    unfold prel at hv
    subst hv
    exact ⟨arr, rfl, ht⟩
  | p :: ps, vs, t, t', arr, e, hv, ht => by
    unfold prel at hv
    obtain ⟨v, m, rfl, hx, hm⟩ := hv
    rw [layL_cons] at e
    obtain ⟨q, hq, e⟩ := bind_some' e
    obtain ⟨hb, e⟩ := bif_some e
    rw [Bool.and_eq_true, Bool.and_eq_true, Nat.beq_eq, Nat.ble_eq] at hb
    obtain ⟨hb1, hb2, hb3⟩ := hb
    rw [lenL_eq] at hb1
    have hb2 : q.1 + q.2 ≤ n := hb2
    have hcs := rp_cells hx (notup_ne hb3)
    have hlen := rps_length hcs
    simp at hlen
    have hsz : v.cells.size = q.2 := by omega
    let arr2 := v.cells.zipIdx.foldl (fun cs (p : Value × Nat) => cs.setIfInBounds (q.1 + p.2) p.1) arr
    have harr : arr2 = (v.cells.toList.zipIdx 0).foldl (fun cs p => cs.setIfInBounds (q.1 + p.2) p.1) arr := by
      show v.cells.zipIdx.foldl _ arr = _
      rw [← Array.foldl_toList, Array.toList_zipIdx]
    obtain ⟨g1, g2⟩ := fold_get q.1 v.cells.toList 0 arr
    rw [← harr] at g1 g2
    have ht2 : TRel ρ n (Tr.fill p.2.cells q.1 t) arr2 := by
      refine ⟨g1.trans ht.1, fun i hi => ?_⟩
      rw [Tr.get_fill, g2]
      have hsize := ht.1
      by_cases h : q.1 ≤ i ∧ i < q.1 + p.2.cells.length
      · rw [if_pos h, if_pos (by simp only [Array.length_toList]; omega)]
        obtain ⟨x, hx2⟩ : ∃ x, p.2.cells[i - q.1]? = some x := ⟨_, List.getElem?_eq_getElem (by omega)⟩
        obtain ⟨u, k1, k2⟩ := (rps_at.1 hcs).2 _ x hx2
        exact ⟨x, u, hx2, by rw [Nat.add_zero]; exact k1, k2⟩
      · rw [if_neg h, if_neg (by simp only [Array.length_toList]; omega)]
        exact ht.2 i hi
    obtain ⟨arr', k1, k2⟩ := fill_snd hp e hm ht2
    refine ⟨arr', ?_, k2⟩
    have hns : ¬ (v.cells.size ≠ q.2 ∨ q.1 + v.cells.size > arr.size) := by have := ht.1; omega
    unfold Instr.fill
    rw [hp _ _ hq]
    dsimp only
    rw [if_neg (by simpa using hns)]
    exact k1
theorem layL_out {n : Nat} {f : Nat → Option (Nat × Nat)} : ∀ {ps : List (Nat × AV)} {t t' : Tr AV}, layL n f ps t = some t' → ∀ j, n ≤ j → t'.get j = t.get j
  | [], t, t', e, j, hj => by
    have e : some t = some t' := e
    injection e with e
    rw [e]
  | p :: ps, t, t', e, j, hj => by
    rw [layL_cons] at e
    obtain ⟨q, hq, e⟩ := bind_some' e
    obtain ⟨hb, e⟩ := bif_some e
    rw [Bool.and_eq_true, Bool.and_eq_true, Nat.beq_eq, Nat.ble_eq] at hb
    obtain ⟨hb1, hb2, hb3⟩ := hb
    rw [lenL_eq] at hb1
    have hb2 : q.1 + q.2 ≤ n := hb2
    rw [layL_out e j hj, Tr.get_fill, if_neg (by omega)]
theorem zipP_cons (p : Nat × Operand) (ps : List (Nat × Operand)) (x : AV) (l : List AV) : zipP (p :: ps) (x :: l) = (p.1, x) :: zipP ps l := rfl
theorem zipP_prel {ρ : Pm} {ev : Operand → Value} : ∀ {ps : List (Nat × Operand)} {args : List AV}, AV.rps ρ args ((ps.map (·.2)).map ev) → prel ρ (zipP ps args) (ps.map fun p => (p.1, ev p.2))
  | [], args, h => by unfold prel zipP; rfl
  | p :: ps, args, h => by
    cases args with
    | nil => rw [rps_nil] at h; simp at h
    | cons x l =>
      rw [rps_cons] at h
      obtain ⟨y, m, h1, h2, h3⟩ := h
      simp only [List.map_cons, List.cons.injEq] at h1
      obtain ⟨rfl, rfl⟩ := h1
      rw [zipP_cons]
      unfold prel
      exact ⟨_, _, rfl, h2, zipP_prel h3⟩
section
variable {P : Program} {ρ : Pm} {w : World}
theorem places_some : ∀ {fs : List Field}, fs.all (fun f => (szO P f.type).isSome) = true → ∃ places, fs.mapM (fun f => (P.info? f.type).map fun i => (f.offset, i.size)) = some places ∧ ∀ i : Nat, places[i]? = (fs[i]?).bind fun f => (szO P f.type).map fun k => (f.offset, k)
  | [], _ => ⟨[], rfl, fun i => by simp⟩
  | f :: fs, h => by
    rw [List.all_cons, Bool.and_eq_true] at h
    obtain ⟨places, h1, h2⟩ := places_some h.2
    obtain ⟨k, hk⟩ := Option.isSome_iff_exists.1 h.1
    obtain ⟨i, hi, rfl⟩ := szO_some hk
    refine ⟨(f.offset, i.size) :: places, ?_, fun j => ?_⟩
    · simp [List.mapM_cons, hi, h1]
    · cases j with
      | zero => simp [hk]
      | succ j => simpa using h2 j
theorem build_snd {t : TypeId} {ps : List (Nat × AV)} {y : AV} {parts : Array (Nat × Value)} (e : buildV P t ps = some y) (hp : prel ρ ps parts.toList) : ∃ u, (Instr.build t parts).run P w = .ok u w ∧ y.rp ρ u := by
  obtain ⟨z, hz, e⟩ := bind_some' (show (zeroO P t).bind _ = some y from e)
  obtain ⟨hnt, e⟩ := bif_some e
  rw [fNat_eq, lenL_eq] at e
  obtain ⟨zv, _, hzr, ⟨it, hit, hitz⟩, hofz⟩ := run_zeroO hz w
  have hcs := rp_cells (hzr ρ) (notup_ne hnt)
  have ht0 := TRel.ofList hcs
  split at e
  · rename_i fs hu
    obtain ⟨hall, e⟩ := bif_some e
    obtain ⟨tr, h1, e⟩ := bind_some' e
    obtain ⟨places, g1, g2⟩ := places_some hall
    obtain ⟨arr, k1, k2⟩ := fill_snd (place := (places.toArray[·]?)) (fun i q hq => by
      have := g2 i
      simp only [List.getElem?_toArray]
      rw [this, ← Array.getElem?_toList] at *
      simpa using hq) h1 hp ht0
    cases hl : tr.list z.cells.length 0 with
    | none => rw [hl] at e; cases e
    | some l =>
      rw [hl] at e
      injection e with e
      subst e
      refine ⟨.agg arr, run_build w t parts arr ?_, by simp only [AV.rp]; exact ⟨arr, rfl, k2.list hl⟩⟩
      unfold Program.built
      rw [hit, hu]
      dsimp only
      rw [hitz, g1]
      exact k1
  · rename_i m el hu
    obtain ⟨k, hk, e5⟩ := bind_some' e
    obtain ⟨tr, h1, e6⟩ := bind_some' e5
    obtain ⟨i, hi, rfl⟩ := szO_some hk
    clear e e5
    obtain ⟨arr, k1, k2⟩ := fill_snd (place := fun j => some (j * i.size, i.size)) (fun j q hq => hq) h1 hp ht0
    cases hl : tr.list z.cells.length 0 with
    | none => rw [hl] at e6; cases e6
    | some l =>
      rw [hl] at e6
      injection e6 with e6
      subst e6
      refine ⟨.agg arr, run_build w t parts arr ?_, by simp only [AV.rp]; exact ⟨arr, rfl, k2.list hl⟩⟩
      unfold Program.built
      rw [hit, hu]
      dsimp only
      rw [hitz, hi]
      exact k1
  · cases e
end
section
variable {P : Program} {B : Nat} {lo : Nat} {h : Heap} {c : Nat} {lg : List Ev} {h' : Heap} {c' : Nat} {lg' : List Ev} {ρ : Pm} {w : World}
theorem buildSlice_snd {t : TypeId} {len : Nat} {ps : List (Nat × AV)} {parts : Array (Nat × Value)} {y : AV} (e : buildSliceM P t len ps lo h c lg = .ok y h' c' lg') (hr : Rep B ρ h w) (hp : prel ρ ps parts.toList) : VRun P B (Instr.buildSlice t len parts) ρ w y h' := by
  obtain ⟨el, h1, e⟩ := need_ok (show need (elS P t) 110 _ lo h c lg = .ok y h' c' lg' from e)
  obtain ⟨k, h2, e⟩ := need_ok e
  obtain ⟨z, h3, e⟩ := need_ok e
  obtain ⟨hb, e⟩ := want_ok e
  obtain ⟨hb2, e⟩ := want_ok e
  rw [fNat_eq] at e
  obtain ⟨tr, h4, e⟩ := need_ok e
  obtain ⟨n, h5, c5, lg5, e1, e2⟩ := bnd_ok e
  obtain ⟨rfl, rfl, rfl, rfl⟩ := ret_ok e2
  rw [Bool.and_eq_true, Nat.beq_eq, lenL_eq] at hb2
  obtain ⟨hzl, hnt⟩ := hb2
  have hb : len * k ≤ 100000 := by rw [Nat.ble_eq] at hb; exact hb
  obtain ⟨zv, hzrun, hzr, ⟨it, hit, hitz⟩, hofz⟩ := run_zeroO h3 w
  have hcs := rp_cells (hzr ρ) (notup_ne hnt)
  have hu := elS_some h1
  obtain ⟨i, hi, rfl⟩ := szO_some h2
  have h0 := zeros_rps hcs len i.size hzl
  have ht0 := TRel.ofList h0
  have hn0 : (repL len z.cells).length = len * i.size := by rw [repL_len, hzl]
  rw [hn0] at ht0
  obtain ⟨arr, k1, k2⟩ := fill_snd (place := fun j => some (j * i.size, i.size)) (fun j q hq => hq) h4 hp ht0
  obtain ⟨q0, rfl, rfl, _, _⟩ := new_ok e1
  obtain ⟨ρ', m1, m2, m3, m4⟩ := hr.new (c := 0) (o := .cells arr el) q0 (b := .row el i.size (Nat.mul len i.size) tr false) rfl (fun ρ' hle => by
    refine ⟨arr, (0, 0), rfl, .inl rfl, fun j x hx => ?_, fun ho => by cases ho⟩
    have hx : tr.get j = some x := hx
    rw [Nat.zero_add]
    have hj : j < len * i.size ∨ ¬ j < len * i.size := by omega
    rcases hj with hj | hj
    · obtain ⟨x2, v, g1, g2, g3⟩ := k2.2 j hj
      rw [hx] at g1
      injection g1 with g1
      subst g1
      exact ⟨v, g2, g3.mono hle⟩
    · exact absurd hx (by rw [layL_out h4 j (by show len * i.size ≤ j; omega), Tr.get_ofList, List.getElem?_eq_none (by omega)]; simp))
  refine ⟨ρ', .slice (some ⟨w.heap.size, 0, none⟩) len len, w.alloc (.cells arr el), ?_, m1, by simp only [AV.rp]; exact ⟨_, _, _, m2, rfl⟩, m3, m4⟩
  have hsmall : ¬ len * i.size > 16777216 := by omega
  by_cases hz0 : len * i.size = 0
  · have hf : Instr.fill (fun j => some (j * i.size, i.size)) ((Array.range (len * i.size)).map ((#[] : Array Value)[· % (#[] : Array Value).size]!)) parts.toList = some arr := by
      rw [← k1]
      congr 1
      rw [hz0]
      simp
    simp [Instr.buildSlice, run_underlying hu, sizeOf, typeInfo, hi, hsmall, hz0, newRow] at hf ⊢
    simp [hf]
  · obtain rfl : i = it := by rw [hi] at hit; injection hit
    simp [Instr.buildSlice, run_underlying hu, sizeOf, typeInfo, zeroValue, hi, hitz, hsmall, hz0, k1, newRow]
theorem makeSlice_snd {t : TypeId} {l k : AV} {vl vk : Value} {y : AV} (e : makeSliceM P t l k lo h c lg = .ok y h' c' lg') (hr : Rep B ρ h w) (hl : l.rp ρ vl) (hk : k.rp ρ vk) : VRun P B (Instr.makeSlice t vl vk) ρ w y h' := by
  unfold makeSliceM at e
  split at e
  · rename_i kl n kk cp
    simp only [AV.rp] at hl hk
    subst hl hk
    obtain ⟨el, h1, e⟩ := need_ok e
    obtain ⟨sz, h2, e⟩ := need_ok e
    obtain ⟨z, h3, e⟩ := need_ok e
    obtain ⟨hb, e⟩ := want_ok e
    obtain ⟨q, h5, c5, lg5, e1, e2⟩ := bnd_ok e
    obtain ⟨rfl, rfl, rfl, rfl⟩ := ret_ok e2
    rw [Bool.and_eq_true, Bool.and_eq_true, Bool.and_eq_true, Bool.and_eq_true, Nat.ble_eq, Nat.ble_eq, Nat.ble_eq, Nat.beq_eq, lenL_eq] at hb
    obtain ⟨b1, b2, b3, hzl, hnt⟩ := hb
    obtain ⟨zv, hzrun, hzr, ⟨it, hit, hitz⟩, hofz⟩ := run_zeroO h3 w
    have hcs := rp_cells (hzr ρ) (notup_ne hnt)
    have hu := elS_some h1
    obtain ⟨i, hi, rfl⟩ := szO_some h2
    have h0 := zeros_rps hcs cp i.size hzl
    rw [rdyL_eq] at e1
    obtain ⟨ρ', m1, m2, m3, m4⟩ := newRow_snd e1 hr h0 0
    refine ⟨ρ', .slice (some ⟨w.heap.size, 0, none⟩) n cp, w.alloc (.cells _ el), ?_, m1, by simp only [AV.rp]; exact ⟨_, _, _, m2, rfl⟩, m3, m4⟩
    have b3 : i.bytes ≤ 10000 := by simpa [Program.bytesOf, hi] using b3
    have hwn : IntKind.i64.wrap (n : Int) = (n : Int) := IntWalk.i64_in _ (by omega)
    have hwc : IntKind.i64.wrap (cp : Int) = (cp : Int) := IntWalk.i64_in _ (by omega)
    have hbig : ¬ ((i.bytes : Int) * (cp : Int) > 281474976710656) := by
      have : i.bytes * cp ≤ 10000 * 10000 := Nat.mul_le_mul b3 b2
      have h2 : ((i.bytes * cp : Nat) : Int) ≤ ((10000 * 10000 : Nat) : Int) := by exact_mod_cast this
      rw [Int.natCast_mul] at h2
      omega
    obtain rfl : i = it := by rw [hi] at hit; injection hit
    have hc0 : ¬ ((cp : Int) < 0) := by omega
    have hn0 : ¬ ((n : Int) < 0) := by omega
    have hnc : ¬ ((cp : Int) < (n : Int)) := by omega
    have hbig2 : ¬ (281474976710656 < (i.bytes : Int) * (cp : Int)) := hbig
    by_cases hz0 : cp * i.size = 0
    · simp [Instr.makeSlice, run_underlying hu, asInt, asIntOf, sizeOf, typeInfo, zeroValue, hi, hitz, hwn, hwc, hc0, hn0, hnc, hbig2, hz0, newRow]
      rw [show Array.range 0 = #[] from rfl]
      simp
    · simp [Instr.makeSlice, run_underlying hu, asInt, asIntOf, sizeOf, typeInfo, zeroValue, hi, hitz, hwn, hwc, hc0, hn0, hnc, hbig2, hz0, newRow]
  · cases e
end
end Go.Proofs.YtdflkikhmngfiaaGreatDoor

