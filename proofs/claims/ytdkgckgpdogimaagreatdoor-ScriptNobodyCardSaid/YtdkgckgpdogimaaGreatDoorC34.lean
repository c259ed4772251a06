/- EySu · EySv: joined by a program, for a claim has at most 60 files. -/
import Derived.Test.YtdkgckgpdogimaaGreatDoorC33
/- Operations on what is not known: what they come to, the rest. -/
namespace Go.Proofs.YtdkgckgpdogimaaGreatDoor
open Go.RowKit
set_option linter.unusedVariables false
set_option linter.unusedSimpArgs false
set_option linter.unusedSectionVars false
variable [Sy] [Dc] [DcOK]
section
variable {P : Program} {B : Nat} {ρ0 ρ : Pm} {h : Heap} {w : World}
theorem sx_str {e : Xp} {v : Value} (h : v = .string e.den.s) : (AV.sx .str e).rp ρ v := by simp only [AV.rp, Sh.rp]; exact h
theorem den_rng {l h n : Xp} (e : (Xp.rng l h n).den = .bool true) : 0 ≤ l.den.i ∧ l.den.i ≤ h.den.i ∧ h.den.i ≤ n.den.i := by
  injection e with e
  simpa using e
theorem den_inb {i n : Xp} (e : (Xp.inb i n).den = .bool true) : 0 ≤ i.den.i ∧ i.den.i < n.den.i := by
  injection e with e
  simpa using e
theorem symStr_snd {op : BinOp} {p q : Xp} {z : AV} (e : symStr op p q = .val z) (t : TypeId) (ox oy : Operand) :
    ∃ r, (do eqGuard op t ox oy (.string p.den.s) (.string q.den.s); binOp op t (.string p.den.s) (.string q.den.s) : Sem Value).run P w = .ok r w ∧ z.rp ρ r := by
  have hg : (eqGuard op t ox oy (.string p.den.s) (.string q.den.s)).run P w = .ok () w := guard_one (fun a h => by cases h) (by simp)
  have fin : ∀ {op r}, (Op.stringOp op p.den.s q.den.s).run P w = .ok r w → (eqGuard op t ox oy (.string p.den.s) (.string q.den.s)).run P w = .ok () w → (binOp op t (.string p.den.s) (.string q.den.s)) = Op.stringOp op p.den.s q.den.s → (do eqGuard op t ox oy (.string p.den.s) (.string q.den.s); binOp op t (.string p.den.s) (.string q.den.s) : Sem Value).run P w = .ok r w := fun {op r} h1 h2 h3 => by
    rw [Sem.run_bind, h2, h3]; exact h1
  have eqq : ∀ {op : BinOp} {g : Bool → Bool}, (Op.stringOp op p.den.s q.den.s = pure (.bool (g (p.den.s.toList == q.den.s.toList)))) → (eqGuard op t ox oy (.string p.den.s) (.string q.den.s)).run P w = .ok () w → (binOp op t (.string p.den.s) (.string q.den.s)) = Op.stringOp op p.den.s q.den.s → (bif eqX p q then .val (.bool (g true)) else asks (.eqs p q) fun r => .val (.bool (g r))) = .val z →
      ∃ r, (do eqGuard op t ox oy (.string p.den.s) (.string q.den.s); binOp op t (.string p.den.s) (.string q.den.s) : Sem Value).run P w = .ok r w ∧ z.rp ρ r := fun {op g} h1 h2 h3 e => by
    refine ⟨.bool (g (decide (p.den.s = q.den.s))), fin (by rw [h1, str_dec]; rfl) h2 h3, ?_⟩
    cases hx : eqX p q with
    | true =>
      rw [hx] at e
      injection e with e
      rw [← e, eqX_eq hx]
      exact av_bool (by simp)
    | false =>
      rw [hx] at e
      obtain ⟨b, h4, h5⟩ := asks_val e
      injection h5 with h5
      injection h4 with h4
      rw [← h5, h4]
      exact av_bool rfl
  cases op with
  | add =>
    obtain ⟨h1, h2⟩ := must_val e
    injection h2 with h2
    obtain ⟨_, _, h3⟩ := den_rng h1
    have h3 : ((p.den.s ++ q.den.s).size : Int) ≤ 1000000000 := h3
    rw [← h2]
    refine ⟨.string (p.den.s ++ q.den.s), fin ?_ hg rfl, sx_str rfl⟩
    rw [ByteArray.size_append] at h3
    have : ¬ ((p.den.s.size + q.den.s.size : Nat) : Int) > IntKind.i64.max := by
      have : IntKind.i64.max = 9223372036854775807 := rfl
      omega
    unfold Op.stringOp
    simp only []
    rw [if_neg this]
    rfl
  | eql => exact eqq (g := fun b => b) rfl hg rfl e
  | neq => exact eqq (g := fun b => !b) rfl hg rfl e
  | _ => cases e
theorem symBool_snd {op : BinOp} {p q : Xp} {z : AV} (e : symBool op p q = .val z) {t : TypeId} (ht : P.underlying t = some .bool) (ox oy : Operand) :
    ∃ r, (do eqGuard op t ox oy (.bool p.den.b) (.bool q.den.b); binOp op t (.bool p.den.b) (.bool q.den.b) : Sem Value).run P w = .ok r w ∧ z.rp ρ r := by
  have hg : (eqGuard op t ox oy (.bool p.den.b) (.bool q.den.b)).run P w = .ok () w := guard_one (fun a h => by cases h) (by simp)
  have hr : (Op.equal t (.bool p.den.b) (.bool q.den.b)).run P w = .ok (p.den.b == q.den.b) w := run_equalIn_bool' w 9999 t _ _ ht
  have val : ∀ {g : Bool → Bool}, (bif eqX p q then .val (.bool (g true)) else askB p fun a => askB q fun b => .val (.bool (g (a == b)))) = .val z → z = .bool (g (p.den.b == q.den.b)) := fun {g} e => by
    cases hx : eqX p q with
    | true =>
      rw [hx] at e
      injection e with e
      rw [← e, eqX_eq hx]
      simp
    | false =>
      rw [hx] at e
      obtain ⟨a, h4, h5⟩ := askB_val e
      obtain ⟨b, h6, h7⟩ := askB_val h5
      injection h7 with h7
      rw [← h7, h4, h6]
      rfl
  cases op with
  | eql =>
    rw [val (g := fun b => b) e]
    refine ⟨.bool (p.den.b == q.den.b), ?_, av_bool rfl⟩
    rw [Sem.run_bind, hg]
    show (do pure (.bool (← Op.equal t (.bool p.den.b) (.bool q.den.b))) : Sem Value).run P w = _
    simp [hr]
  | neq =>
    rw [val (g := fun b => !b) e]
    refine ⟨.bool (!(p.den.b == q.den.b)), ?_, av_bool rfl⟩
    rw [Sem.run_bind, hg]
    show (do pure (.bool (!(← Op.equal t (.bool p.den.b) (.bool q.den.b)))) : Sem Value).run P w = _
    simp [hr]
  | _ => cases e
theorem symBin_snd {op : BinOp} {t : TypeId} {x y z : AV} (e : symBin P op t x y = .val z) {vx vy : Value} (hx : x.rp ρ vx) (hy : y.rp ρ vy) (ox oy : Operand) : ∃ r, (do eqGuard op t ox oy vx vy; binOp op t vx vy : Sem Value).run P w = .ok r w ∧ z.rp ρ r := by
  unfold symBin at e
  split at e
  · rename_i p q h1 h2
    rw [xi_rp h1 hx, xi_rp h2 hy]
    exact symInt_snd e h2
  · split at e
    · rename_i p q h1 h2
      rw [xs_rp h1 hx, xs_rp h2 hy]
      exact symStr_snd e t ox oy
    · split at e
      · rename_i p q h1 h2
        obtain ⟨d, h3, e⟩ := optT_val e
        cases d with
        | bool =>
          rw [xb_rp h1 hx, xb_rp h2 hy]
          exact symBool_snd e h3 ox oy
        | _ => cases e
      · cases e
end
end Go.Proofs.YtdkgckgpdogimaaGreatDoor


/- Operations on what is not known: conversions, lengths, places, parts, loads. -/
namespace Go.Proofs.YtdkgckgpdogimaaGreatDoor
open Go.RowKit
set_option linter.unusedVariables false
set_option linter.unusedSimpArgs false
set_option linter.unusedSectionVars false
variable [Sy] [Dc] [DcOK]
section
variable {P : Program} {B : Nat} {ρ0 ρ : Pm} {h : Heap} {w : World}
theorem isB_some {el : List Sh} (h : isB el = true) : el = [.int .u8] := by
  unfold isB at h
  split at h
  · rfl
  · cases h
/-- A list's cells, in memory. -/
theorem lst_cells {el : List Sh} {p : PV} {v : Value} (h : Sh.rp ρ.fz (.lst el) p v) : ∃ a c, v = .slice a p.l.length c ∧ p.l.length ≤ c ∧ (p.l = [] ∨ ∃ b o, a = some ⟨b, o, none⟩ ∧ ∀ i x, p.l[i]? = some x → Sh.rps ρ.fz el (x.row el.length) fun j => ρ.fz b (o + i * el.length + j)) := by
  simpa only [Sh.rp] using h
theorem bytes_cells {el : TypeId} {p : PV} {b o : Nat} (hr : Rep B ρ h w) (hc : ∀ i x, p.l[i]? = some x → Sh.rps ρ.fz [.int .u8] (x.row 1) fun j => ρ.fz b (o + i * 1 + j)) :
    (loadCells ⟨b, o, none⟩ p.l.length).run P w = .ok (p.l.map fun x => Value.int .u8 x.i).toArray w := by
  have hcell : ∀ i x, p.l[i]? = some x → w.cell? ⟨b, o + i, none⟩ = some (.int .u8 x.i) := fun i x hx => by
    have := hc i x hx
    simp only [Sh.rps, Sh.rp, PV.row] at this
    rw [show [x].headD default = x from rfl] at this
    obtain ⟨⟨u, h1, h2⟩, _⟩ := this
    have := hr.frz _ _ _ h1
    rw [h2] at this
    simpa using this
  have := run_loadCells (P := P) w ⟨b, o, none⟩ p.l.length (fun j => (w.cell? ((⟨b, o, none⟩ : Addr).add j)).getD undef) (fun j hj => by
    obtain ⟨x, hx⟩ : ∃ x, p.l[j]? = some x := ⟨p.l[j], List.getElem?_eq_getElem hj⟩
    rw [addr_add, hcell j x hx]; rfl)
  rw [this]
  congr 2
  apply List.ext_getElem?
  intro i
  rw [List.getElem?_map, List.getElem?_map]
  by_cases hi : i < p.l.length
  · rw [List.getElem?_range hi, List.getElem?_eq_getElem hi]
    show some ((w.cell? ((⟨b, o, none⟩ : Addr).add i)).getD undef) = _
    rw [addr_add, hcell i _ (List.getElem?_eq_getElem hi)]
    rfl
  · rw [List.getElem?_eq_none (by simpa using hi), List.getElem?_eq_none (by omega)]; rfl
theorem push_fold : ∀ (l : List PV) (s : ByteArray), (l.map fun x : PV => x.i).foldl (fun r n => r.push (UInt8.ofNat n.toNat)) s = ⟨s.data ++ (l.map fun p => UInt8.ofNat p.i.toNat).toArray⟩
  | [], s => by simp
  | x :: l, s => by
    rw [List.map_cons, List.foldl_cons, push_fold l]
    simp [ByteArray.push]
theorem symConv_snd (hr : Rep B ρ h w) {s d : TypeId} {x z : AV} (e : symConv P s d x = .val z) {v : Value} (hx : x.rp ρ v) : ∃ v' w', (convert s d v).run P w = .ok v' w' ∧ z.rp (ρ.grow w w') v' ∧ Below w.heap.size w w' := by
  obtain ⟨us, hs, e⟩ := optT_val e
  obtain ⟨ud, hd, e⟩ := optT_val e
  have here : ∀ {v'}, (convert s d v).run P w = .ok v' w → z.rp ρ v' → ∃ v' w', (convert s d v).run P w = .ok v' w' ∧ z.rp (ρ.grow w w') v' ∧ Below w.heap.size w w' := fun {v'} h1 h2 => ⟨v', w, h1, h2.mono (hr.frozen (Below.refl _ _)).1, Below.refl _ _⟩
  cases ud with
  | int k =>
    obtain ⟨p, h1, e⟩ := optT_val e
    injection e with e
    rw [xi_rp h1 hx] at here ⊢
    refine here (v' := .int k (k.wrap p.2.den.i)) (by simp [convert, run_underlying hs, run_underlying hd, Conv.intToInt]) ?_
    rw [← e]
    exact sx_int rfl
  | string =>
    dsimp only at e
    split at e
    · injection e with e
      simp only [AV.rp, Sh.rp] at hx
      subst e
      rw [hx] at here ⊢
      exact here (by simp [convert, run_underlying hs, run_underlying hd]) (sx_str rfl)
    · obtain ⟨p, h1, e⟩ := optT_val e
      obtain ⟨h2, e9⟩ := iffT_val e
      injection e9 with e9
      rw [Bool.and_eq_true] at h2
      obtain ⟨el, rfl, he⟩ := slU8_some h2.1
      have hl := xl_rp h1 hx
      rw [isB_some h2.2] at hl
      obtain ⟨a, c, rfl, hc, hl⟩ := lst_cells hl
      subst e9
      refine here (v' := .string (Xp.ofB p.2).den.s) ?_ (sx_str rfl)
      rw [run_convert_bytes_string w s d el a p.2.den.l.length c hs he hd]
      show _ = Result.ok (Value.string ⟨(p.2.den.l.map fun p => UInt8.ofNat p.i.toNat).toArray⟩) w
      rcases hl with h0 | ⟨b, o, rfl, hcl⟩
      · rw [h0]
        cases a with
        | none => rfl
        | some a => exact run_bytesToString w a 0 c [] rfl
      · rw [run_bytesToString w _ _ c (p.2.den.l.map fun x : PV => x.i) (by rw [bytes_cells hr hcl (el := el)]; simp), push_fold]
        simp
  | slice et =>
    dsimp only at e
    split at e
    · rename_i a _ _
      obtain ⟨h1, e⟩ := iffT_val e
      injection e with e
      simp only [AV.rp, Sh.rp] at hx
      have he := isU8_some h1
      rw [hx]
      have hb : Below w.heap.size w (Lib.bytesWorld w et a.den.s) := ⟨rfl, rfl, rfl, by rw [Lib.bytesWorld_size]; omega, fun k hk => Lib.bytesWorld_at_old w et a.den.s k hk⟩
      refine ⟨_, _, Lib.run_convert_string_bytes w s d et a.den.s hs hd he, ?_, hb⟩
      rw [← e]
      simp only [AV.rp, Sh.rp]
      have hn : (Xp.toB a).den.l = a.den.s.data.toList.map fun b => PV.int (b.toNat : Int) := rfl
      have hlen : (Xp.toB a).den.l.length = a.den.s.size := by rw [hn, List.length_map]; rfl
      refine ⟨_, _, by rw [hlen], by rw [hlen]; exact grownCap_ge _ _ _ _, .inr ⟨_, _, rfl, fun i x hi => ?_⟩⟩
      rw [hn, List.getElem?_map] at hi
      cases hq : a.den.s.data.toList[i]? with
      | none => rw [hq] at hi; cases hi
      | some b =>
        rw [hq] at hi
        injection hi with hi
        subst hi
        have hq2 : a.den.s.data[i]? = some b := by simpa using hq
        have hi2 : i < a.den.s.data.size := (Array.getElem?_eq_some_iff.1 hq2).1
        simp only [Sh.rps, Sh.rp]
        refine ⟨⟨.int .u8 (b.toNat : Int), ?_, rfl⟩, trivial⟩
        show (if w.heap.size ≤ w.heap.size then (Lib.bytesWorld w et a.den.s).cell? ⟨w.heap.size, 0 + i * 1 + 0, none⟩ else _) = _
        rw [if_pos (Nat.le_refl _)]
        unfold World.cell?
        rw [Lib.bytesWorld_at_new]
        simp only [Lib.bytesCells]
        rw [Nat.zero_add, Nat.mul_one, Nat.add_zero, Array.getElem?_append_left (by simpa using hi2), Array.getElem?_map, hq2]
        rfl
    · cases e
  | _ => cases e
theorem symBlt_snd (hr : Rep B ρ h w) {b : Builtin} {ts : Array TypeId} {args : List AV} {z : AV} (e : symBlt P b ts args = .val z) {vs : Array Value} (hv : AV.rps ρ args vs.toList) (ty : TypeId) (cs : Array Bool) :
    ∃ s v, builtin b ts ty cs vs = (do pure (Next.value (← s))) ∧ s.run P w = .ok v w ∧ z.rp ρ v := by
  unfold symBlt at e
  split at e
  · rename_i x
    obtain ⟨d, h1, e⟩ := optT_val e
    obtain ⟨t, h2, h1⟩ := bind_some' h1
    obtain ⟨v, rfl, hx⟩ := rps_l1 hv
    split at e
    · rename_i a _ _
      injection e with e
      simp only [AV.rp, Sh.rp] at hx
      subst hx
      refine ⟨Builtin.len_ ts ty #[.string a.den.s], goInt a.den.s.size, rfl, by simp [Builtin.len_, h2, run_underlying h1], ?_⟩
      rw [← e]
      exact sx_int rfl
    · obtain ⟨p, h3, e⟩ := optT_val e
      injection e with e
      obtain ⟨a, c, rfl, _⟩ := lst_cells (xl_rp h3 hx)
      refine ⟨Builtin.len_ ts ty #[.slice a p.2.den.l.length c], goInt p.2.den.l.length, rfl, by simp [Builtin.len_, h2, run_underlying h1], ?_⟩
      rw [← e]
      exact sx_int rfl
    · cases e
  · rename_i x y
    obtain ⟨p, h1, e⟩ := optT_val e
    obtain ⟨q, h2, e⟩ := optT_val e
    obtain ⟨r, h3, e⟩ := asks_val e
    injection e with e
    injection h3 with h3
    obtain ⟨v, u, rfl, hx, hy⟩ := rps_l2 hv
    rw [xi_rp h1 hx, xi_rp h2 hy]
    have h3 : decide (q.2.den.i < p.2.den.i) = r := h3
    refine ⟨Builtin.min_ ts ty #[.int p.1 p.2.den.i, .int q.1 q.2.den.i], .int p.1 (if q.2.den.i < p.2.den.i then q.2.den.i else p.2.den.i), rfl, by simp [Builtin.min_, Builtin.min2], ?_⟩
    rw [← e]
    cases r with
    | true => rw [if_pos (of_decide_eq_true h3)]; exact sx_int rfl
    | false => rw [if_neg (of_decide_eq_false h3)]; exact sx_int rfl
  · rename_i x y
    obtain ⟨p, h1, e⟩ := optT_val e
    obtain ⟨q, h2, e⟩ := optT_val e
    obtain ⟨r, h3, e⟩ := asks_val e
    injection e with e
    injection h3 with h3
    obtain ⟨v, u, rfl, hx, hy⟩ := rps_l2 hv
    rw [xi_rp h1 hx, xi_rp h2 hy]
    have h3 : decide (p.2.den.i < q.2.den.i) = r := h3
    refine ⟨Builtin.max_ ts ty #[.int p.1 p.2.den.i, .int q.1 q.2.den.i], .int p.1 (if p.2.den.i < q.2.den.i then q.2.den.i else p.2.den.i), rfl, by simp [Builtin.max_, Builtin.max2], ?_⟩
    rw [← e]
    cases r with
    | true => rw [if_pos (of_decide_eq_true h3)]; exact sx_int rfl
    | false => rw [if_neg (of_decide_eq_false h3)]; exact sx_int rfl
  · cases e
end
end Go.Proofs.YtdkgckgpdogimaaGreatDoor

