/- HencBack, plain: what is written is read. -/
import Derived.Test.YteceinojmdgmeaaC48
import Derived.Test.YteceinojmdgmeaaC45
namespace Go.Proofs.Yteceinojmdgmeaa
open Go.RowKit
set_option linter.unusedVariables false
set_option linter.unusedSimpArgs false

theorem gOf_never {T : List Fld} (h : T.any (·.never) = false) (k : Nat) : (gOf T k).never = false := by
  unfold gOf
  split
  · rfl
  · rw [List.getD_eq_getElem?_getD]
    cases hk : T[k - 61]? with
    | none => rfl
    | some f =>
      have := List.any_eq_false.1 h f (List.mem_of_getElem? hk)
      simpa using this
theorem at_gOf2 {T : List Fld} {q : Nat} (h : q < 61 + T.length) : atF T ((q + 1 : Nat) : Int) = (gOf T q, true) := by
  unfold atF gOf
  by_cases h61 : q < 61
  · rw [if_neg (by omega), if_pos (by omega), if_pos h61, show (((q + 1 : Nat) : Int) - 1).toNat = q by omega]
  · have hl : q - 61 < T.length := by omega
    rw [if_neg (by omega), if_neg (by omega), if_neg h61, show (((q + 1 : Nat) : Int) - 62).toNat = q - 61 by omega, List.getD_eq_getElem?_getD, List.getElem?_eq_getElem hl]
    rfl
/-- What Find tells is what is named. -/
theorem found_at {T : List Fld} {n v : ByteArray} {p : Nat} {x : Bool} (h : DFound T n v p x) (hn : T.any (·.never) = false) : (p = 0 ∧ x = false) ∨ ∃ g, p ≠ 0 ∧ atF T (p : Int) = (g, true) ∧ g.name = n ∧ g.never = false ∧ (x = true → g.value = v) := by
  rcases h with ⟨hx, k, h1, rfl, h3, h4, _⟩ | ⟨hx, _, h1⟩
  · exact .inr ⟨gOf T k, by omega, at_gOf2 h1, h3, gOf_never hn k, fun _ => h4⟩
  · rcases h1 with ⟨h1, _⟩ | ⟨q, h1, rfl, h3, _⟩
    · exact .inl ⟨h1, hx⟩
    · exact .inr ⟨gOf T q, by omega, at_gOf2 h1, h3, gOf_never hn q, fun e => by rw [hx] at e; cases e⟩
/-- An item of a field is read as the field, and does the same to the table. -/
theorem item_step {la : Int} {T : List Fld} {f : Fld} {p : Nat} {x : Bool} (h : DFound T f.name f.value p x) (hn : T.any (·.never) = false) :
    (eItem p x la f).kind ≠ 4 ∧ hSt la 4096 T (eItem p x la f) = (la, (if (eItem p x la f).kind = 1 then addL la T f else T), f, true, 0) := by
  have hf := found_at h hn
  obtain ⟨fn, fv, fb⟩ := f
  dsimp only at hf h
  unfold eItem
  by_cases c : (x && !fb) = true
  · rw [if_pos c]
    have hx : x = true := by simp at c; exact c.1
    have hb : fb = false := by simp at c; exact c.2
    rcases hf with ⟨_, h0⟩ | ⟨g, hp, ha, h1, h2, h3⟩
    · rw [hx] at h0; cases h0
    · refine ⟨by show ¬ (0 : Nat) = 4; decide, ?_⟩
      have e : hNamed T ⟨0, (p : Int), ⟨#[]⟩, ⟨#[]⟩⟩ = (g, true) := by
        unfold hNamed
        rw [if_neg (by show ¬ (p : Int) = 0; omega)]
        exact ha
      have hg : g = ⟨fn, fv, fb⟩ := by
        obtain ⟨gn, gv, gb⟩ := g
        dsimp only at h1 h2 h3
        rw [h1, h2, h3 hx, hb]
      unfold hSt
      rw [if_neg (by show ¬ (0 : Nat) = 4; decide), e, if_neg (by simp), if_pos rfl, if_neg (by show ¬ (0 : Nat) = 1; decide), hg]
  · rw [if_neg c]
    have hN : ∀ k : Nat, (hNamed T ⟨k, (p : Int), if p = 0 then fn else ⟨#[]⟩, fv⟩).2 = true ∧ (hNamed T ⟨k, (p : Int), if p = 0 then fn else ⟨#[]⟩, fv⟩).1.name = fn := fun k => by
      unfold hNamed
      rcases hf with ⟨h0, _⟩ | ⟨g, hp, ha, h1, _, _⟩
      · rw [if_pos (by show (p : Int) = 0; omega)]
        exact ⟨rfl, if_pos h0⟩
      · rw [if_neg (by show ¬ (p : Int) = 0; omega)]
        show (atF T (p : Int)).2 = true ∧ (atF T (p : Int)).1.name = fn
        rw [ha]
        exact ⟨rfl, h1⟩
    have hstep : ∀ k : Nat, k ≠ 4 → k ≠ 0 → (k = 1 → fb = false) → (k ≠ 1 → decide (k = 3) = fb) → (k ≠ 4 ∧ hSt la 4096 T ⟨k, (p : Int), if p = 0 then fn else ⟨#[]⟩, fv⟩ = (la, (if k = 1 then addL la T ⟨fn, fv, fb⟩ else T), ⟨fn, fv, fb⟩, true, 0)) := fun k h4 h0 h1 h3 => by
      refine ⟨h4, ?_⟩
      obtain ⟨n1, n2⟩ := hN k
      unfold hSt
      dsimp only
      rw [if_neg h4, n1, n2, if_neg (by simp), if_neg h0]
      by_cases e1 : k = 1
      · rw [if_pos e1, if_pos e1, h1 e1]
      · rw [if_neg e1, if_neg e1, h3 e1]
    by_cases hb : fb = true
    · have hk : (if fb = true then 3 else if ((⟨fn, fv, fb⟩ : Fld).sz : Int) ≤ la / 2 then 1 else 2) = 3 := if_pos hb
      dsimp only
      rw [hk]
      exact hstep 3 (by decide) (by decide) (by intro h; cases h) (fun _ => by rw [hb]; rfl)
    · have hb2 : fb = false := by simpa using hb
      dsimp only
      rw [if_neg hb]
      split
      · exact hstep 1 (by decide) (by decide) (fun _ => hb2) (fun h => absurd rfl h)
      · exact hstep 2 (by decide) (by decide) (by intro h; cases h) (fun _ => by rw [hb2]; rfl)
theorem erun_run {la : Int} : ∀ {l T T2 : List Fld} {O : List Itm} (bg : Bool) (out : List Fld), ERun la T l T2 O → chkN la T = 0 → hRun 4096 O la T bg out = (la, T2, out ++ l, 0)
  | [], T, T2, O, bg, out, h, hc => by
    obtain ⟨rfl, rfl⟩ := h
    simp [hRun]
  | f :: l, T, T2, O, bg, out, h, hc => by
    obtain ⟨p, x, O2, hd, rfl, h2⟩ := h
    obtain ⟨h4, hs⟩ := item_step (la := la) hd (chk_sum hc).2.2.2
    rw [hRun_cons 4096 _ O2 la T bg out h4, hs]
    dsimp only
    rw [if_neg (by simp), if_pos rfl, erun_run true (out ++ [f]) h2 (by split; exact addL_chk f hc; exact hc)]
    simp
theorem rzO_eq (mx most : Int) (O : List Itm) : rzO mx most O = O ++ rzO mx most [] := by
  unfold rzO
  split <;> simp
theorem rz_run {mx most : Int} {T out : List Fld} {O : List Itm} (h : chkN mx T = 0) (h0 : 0 ≤ most) (h4 : most ≤ 4096) : hRun 4096 (rzO mx most [] ++ O) mx T false out = hRun 4096 O most (rzL mx most T) false out := by
  unfold rzO rzL
  by_cases e : most = mx
  · rw [if_neg (by simpa using e), if_neg (by simpa using e), e]
    rfl
  · rw [if_pos e, if_pos e]
    have hs : hSt mx 4096 T ⟨4, most, ⟨#[]⟩, ⟨#[]⟩⟩ = (resM mx most T, resL mx most T, zFl, false, 0) := by
      unfold hSt
      rw [if_pos rfl, if_neg (by show ¬ (4096 : Int) < most; omega)]
      have : resE mx most T = 0 := by
        unfold resE
        rw [if_neg (by omega), if_neg (by omega)]
      rw [this]
    have hM := (resL_chk h h0 h4).1
    show (if (4 : Nat) = 4 ∧ false = true then (mx, T, out, 10) else _) = _
    rw [if_neg (by simp), hs]
    dsimp only
    rw [if_neg (by simp), if_neg (by simp), hM]
    rfl
/-- The items' texts are the fields' ones. -/
theorem erun_small {la : Int} : ∀ {l T T2 : List Fld} {O : List Itm}, ERun la T l T2 O → (∀ f ∈ l, lt200 f = true) → ∀ x ∈ O, x.name.size ≤ 200 ∧ x.value.size ≤ 200
  | [], T, T2, O, h, _, x, hx => by obtain ⟨rfl, rfl⟩ := h; cases hx
  | f :: l, T, T2, O, h, hl, x, hx => by
    obtain ⟨p, b, O2, hd, rfl, h2⟩ := h
    rcases List.mem_cons.1 hx with rfl | hx
    · have hf : f.name.size ≤ 200 ∧ f.value.size ≤ 200 := by simpa [lt200] using hl f (by simp)
      have he : (⟨#[]⟩ : ByteArray).size = 0 := rfl
      unfold eItem
      split
      · exact ⟨by rw [he]; omega, by rw [he]; omega⟩
      · dsimp only
        refine ⟨?_, hf.2⟩
        split
        · exact hf.1
        · rw [he]; omega
    · exact erun_small h2 (fun g hg => hl g (by simp [hg])) x hx
theorem erun_bytes {la : Int} : ∀ {l T T2 : List Fld} {O : List Itm}, ERun la T l T2 O → (∀ x ∈ O, OkJ x) → (catI O).length ≤ 10 * l.length + sumF l
  | [], T, T2, O, h, _ => by obtain ⟨rfl, rfl⟩ := h; simp [catI, sumF]
  | f :: l, T, T2, O, h, hl => by
    obtain ⟨p, b, O2, hd, rfl, h2⟩ := h
    have ih := erun_bytes h2 (fun x hx => hl x (by simp [hx]))
    have hx := hl (eItem p b la f) (by simp)
    have h1 := itemN_len200 _ hx.1 hx.2.1 hx.2.2
    have he : (⟨#[]⟩ : ByteArray).size = 0 := rfl
    have h3 : (eItem p b la f).name.size ≤ f.name.size ∧ (eItem p b la f).value.size ≤ f.value.size := by
      unfold eItem
      split
      · exact ⟨by rw [he]; omega, by rw [he]; omega⟩
      · dsimp only
        refine ⟨?_, Nat.le_refl _⟩
        split
        · exact Nat.le_refl _
        · rw [he]; omega
    have hz : f.sz = f.name.size + f.value.size + 32 := rfl
    rw [catI_cons, List.length_append, List.length_cons]
    show _ ≤ 10 * (l.length + 1) + (f.sz + sumF l)
    omega
/-- Both sizes are told ahead of the items. -/
theorem back_run {mx le la : Int} {T l T2 : List Fld} {O1 : List Itm} (he : echk mx le la T = 0) (hr : ERun la (rzL le la (rzL mx le T)) l T2 O1) (h2 : ∀ f ∈ l, lt200 f = true) (h8 : l.length ≤ 8) (hs : sumF l ≤ 1024) :
    (∀ x ∈ rzO le la (rzO mx le []) ++ O1, OkJ x) ∧ (catI (rzO le la (rzO mx le []) ++ O1)).length ≤ 4096 ∧ hRun 4096 (rzO le la (rzO mx le []) ++ O1) mx T false [] = (la, T2, l, 0) := by
  obtain ⟨k1, k2, k3, k4⟩ := echk_facts he
  have r1 := rz_chk (mx := mx) k1 k2 (by omega)
  have r2 := rz_chk (mx := le) (most := la) r1.2 (by omega) k4
  have hlong : l.any longF = false := by
    apply List.any_eq_false.2
    intro f hf
    have := h2 f hf
    have hf2 : f.name.size ≤ 200 ∧ f.value.size ≤ 200 := by simpa [lt200] using this
    simp [longF]
    omega
  have hO1 : ∀ x ∈ O1, OkJ x := fun x hx => ⟨hr.chk r2.2 hlong x hx, erun_small hr h2 x hx⟩
  have hR : ∀ {a b : Int} {T : List Fld}, 0 ≤ b → b ≤ 4096 → ∀ x ∈ rzO a b [], OkJ x := fun {a b T} h0 h4 x hx => by
    refine ⟨rzO_chk (O := []) (fun y hy => by cases hy) h0 h4 x hx, ?_⟩
    unfold rzO at hx
    have he : (⟨#[]⟩ : ByteArray).size = 0 := rfl
    split at hx
    · simp at hx
      subst hx
      exact ⟨by rw [he]; omega, by rw [he]; omega⟩
    · cases hx
  have hRb : ∀ {a b : Int}, 0 ≤ b → b ≤ 4096 → (catI (rzO a b [])).length ≤ 10 := fun {a b} h0 h4 => by
    have hh := hR (a := a) (b := b) (T := []) h0 h4
    unfold rzO at hh ⊢
    split
    · rename_i e
      rw [if_pos e] at hh
      have h1 := hh _ (List.mem_append.2 (.inr (List.mem_singleton.2 rfl)))
      have h3 := itemN_len200 _ h1.1 h1.2.1 h1.2.2
      have he : (⟨#[]⟩ : ByteArray).size = 0 := rfl
      simp only [List.nil_append, catI_cons, List.length_append]
      dsimp only at h3
      rw [he] at h3
      have : (catI []).length = 0 := rfl
      omega
    · have : (catI []).length = 0 := rfl
      omega
  have e1 : rzO le la (rzO mx le []) ++ O1 = rzO mx le [] ++ (rzO le la [] ++ O1) := by rw [rzO_eq le la (rzO mx le []), List.append_assoc]
  refine ⟨fun x hx => ?_, ?_, ?_⟩
  · rw [e1] at hx
    rcases List.mem_append.1 hx with hx | hx
    · exact hR (T := []) k2 (by omega) x hx
    · rcases List.mem_append.1 hx with hx | hx
      · exact hR (T := []) (by omega) k4 x hx
      · exact hO1 x hx
  · rw [e1, catI_append, catI_append, List.length_append, List.length_append]
    have b1 := hRb (a := mx) (b := le) k2 (by omega)
    have b2 := hRb (a := le) (b := la) (by omega) k4
    have b3 := erun_bytes hr hO1
    omega
  · rw [e1, rz_run k1 k2 (by omega), rz_run r1.2 (by omega) k4, erun_run false [] hr r2.2]
    simp
theorem back_blk {mx : Int} {T l T2 : List Fld} {la : Int} {its : List Itm} (hc : chkN mx T = 0) (hi : ∀ x ∈ its, OkJ x) (hs : sumF l ≤ 1024) (hr : hRun 4096 its mx T false [] = (la, T2, l, 0)) : hBlk mx 4096 T (catI its) = (la, T2, l, true, 0) := by
  have hh : hchk mx 4096 T = 0 := hchk_zero.2 ⟨hc, (chk_sum hc).2.1, by omega⟩
  unfold hBlk
  rw [if_neg (by omega), allG_cat2 its hi]
  dsimp only
  rw [if_neg (by simp), hr]
  dsimp only
  rw [if_neg (by simp), if_neg (by omega)]
theorem lim_chk {mx le la most : Int} {T : List Fld} (he : echk mx le la T = 0) (h0 : 0 ≤ most) : limE mx le la most T = 0 ∧ echk mx (limLe mx le la most T) (limLa mx le la most T) T = 0 := by
  have h1 : limE mx le la most T = 0 := by
    unfold limE
    rw [if_neg (by omega), if_neg (by omega)]
  refine ⟨h1, ?_⟩
  have k := echk_facts he
  have hle : le ≤ mx := by
    unfold echk at he
    rw [if_neg (by omega)] at he
    split at he
    · cases he
    · omega
  unfold limLe limLa
  rw [if_neg (by omega), if_neg (by omega)]
  unfold echk
  rw [if_neg (by omega), if_neg (by omega)]
/-- henc.Block of few fields, by a state that may be: its bytes are read as the fields, and the tables stay one. -/
theorem blk_back {mx le la : Int} {oa : Option Addr} {n cap : Nat} {T l : List Fld} {w w' : World} {e : Ending} (he : echk mx le la T = 0) (h2 : ∀ f ∈ l, lt200 f = true) (h8 : l.length ≤ 8) (hs : sumF l ≤ 1024) (h : EBlkPost mx le la oa n cap T l w e w') :
    ∃ (o2 : Option Addr) (n2 c2 : Nat) (T2 : List Fld) (ob : Option Addr) (nb cb : Nat) (bs : List Nat), e = .returned (.tuple #[.agg #[.int .i64 la, .slice o2 n2 c2, .int .i64 la, .int .i64 la], .slice ob nb cb, .int .i64 0]) ∧
      hBlk mx 4096 T bs = (la, T2, l, true, 0) ∧ BytesN w' ob bs ∧ bs.length = nb ∧ nb ≤ cb ∧ nb ≤ 5000 ∧ (∀ i, i < bs.length → bs.getD i 0 < 256) ∧ FieldsN w' o2 T2 ∧ T2.length = n2 ∧ n2 ≤ c2 ∧ echk la la la T2 = 0 ∧ Below w.heap.size w w' := by
  have hlong : l.any longF = false := by
    apply List.any_eq_false.2
    intro f hf
    have := h2 f hf
    have hf2 : f.name.size ≤ 200 ∧ f.value.size ≤ 200 := by simpa [lt200] using this
    simp [longF]
    omega
  rcases h with ⟨h, _⟩ | ⟨_, h, _⟩ | ⟨_, _, T2, O1, hr, hc2, h⟩
  · exact absurd he h
  · rw [hlong] at h; cases h
  · obtain ⟨hi, hl, hrun⟩ := back_run he hr h2 h8 hs
    rcases h with ⟨h, _⟩ | ⟨_, o2, n2, c2, bv, h, ho, hf, hn2, hc, hb⟩
    · omega
    · obtain ⟨ob, cb, rfl, hby, hcb, _⟩ := ho.form3
      have k := echk_facts he
      refine ⟨o2, n2, c2, T2, ob, _, cb, _, h, back_blk k.1 hi hs hrun, hby, rfl, hcb, by omega, fun i hi2 => ?_, hf, hn2, hc, ?_, hb⟩
      · rw [List.getD_eq_getElem?_getD, List.getElem?_eq_getElem hi2]
        exact catI_bytes2 _ hi _ (List.getElem_mem hi2)
      · have s := chk_sum hc2
        unfold echk
        rw [if_neg (by omega), if_neg (by omega)]
end Go.Proofs.Yteceinojmdgmeaa

