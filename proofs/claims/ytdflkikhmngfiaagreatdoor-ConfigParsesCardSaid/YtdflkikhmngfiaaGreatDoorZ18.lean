/- EySu · EySv · EySw: joined by a program, for a claim has at most 60 files. -/
import Derived.Test.YtdflkikhmngfiaaGreatDoorZ17
/- Operations on what is not known: what they come to, the rest. -/
namespace Go.Proofs.YtdflkikhmngfiaaGreatDoor
open Go.RowKit
set_option linter.unusedVariables false
set_option linter.unusedSimpArgs false
set_option linter.unusedSectionVars false
variable [Sy] [Dc] [DcOK]
section
variable {P : Program} {B : Nat} {ρ0 ρ : Pm} {h : Heap} {w : World}
theorem sx_str {e : Xp} {v : Value} (h : v = .string e.den.s) : (AV.sx .str e).rp ρ v := by simp only [AV.rp, Sh.rp]; exact h
theorem den_rng {l h n : Xp} (e : (Xp.rng l h n).den = .bool true) : 0 ≤ l.den.i ∧ l.den.i ≤ h.den.i ∧ h.den.i ≤ n.den.i := by
  injection e with e
  simpa using e
theorem den_inb {i n : Xp} (e : (Xp.inb i n).den = .bool true) : 0 ≤ i.den.i ∧ i.den.i < n.den.i := by
  injection e with e
  simpa using e
theorem symStr_snd {op : BinOp} {p q : Xp} {z : AV} (e : symStr op p q = .val z) (t : TypeId) (ox oy : Operand) :
    ∃ r, (do eqGuard op t ox oy (.string p.den.s) (.string q.den.s); binOp op t (.string p.den.s) (.string q.den.s) : Sem Value).run P w = .ok r w ∧ z.rp ρ r := by
  have hg : (eqGuard op t ox oy (.string p.den.s) (.string q.den.s)).run P w = .ok () w := guard_one (fun a h => by cases h) (by simp)
  have fin : ∀ {op r}, (Op.stringOp op p.den.s q.den.s).run P w = .ok r w → (eqGuard op t ox oy (.string p.den.s) (.string q.den.s)).run P w = .ok () w → (binOp op t (.string p.den.s) (.string q.den.s)) = Op.stringOp op p.den.s q.den.s → (do eqGuard op t ox oy (.string p.den.s) (.string q.den.s); binOp op t (.string p.den.s) (.string q.den.s) : Sem Value).run P w = .ok r w := fun {op r} h1 h2 h3 => by
    rw [Sem.run_bind, h2, h3]; exact h1
  have eqq : ∀ {op : BinOp} {g : Bool → Bool}, (Op.stringOp op p.den.s q.den.s = pure (.bool (g (p.den.s.toList == q.den.s.toList)))) → (eqGuard op t ox oy (.string p.den.s) (.string q.den.s)).run P w = .ok () w → (binOp op t (.string p.den.s) (.string q.den.s)) = Op.stringOp op p.den.s q.den.s → (bif eqX p q then .val (.bool (g true)) else asks (.eqs p q) fun r => .val (.bool (g r))) = .val z →
      ∃ r, (do eqGuard op t ox oy (.string p.den.s) (.string q.den.s); binOp op t (.string p.den.s) (.string q.den.s) : Sem Value).run P w = .ok r w ∧ z.rp ρ r := fun {op g} h1 h2 h3 e => by
    refine ⟨.bool (g (decide (p.den.s = q.den.s))), fin (by rw [h1, str_dec]; rfl) h2 h3, ?_⟩
    cases hx : eqX p q with
    | true =>
      rw [hx] at e
      injection e with e
      rw [← e, eqX_eq hx]
      exact av_bool (by simp)
    | false =>
      rw [hx] at e
      obtain ⟨b, h4, h5⟩ := asks_val e
      injection h5 with h5
      injection h4 with h4
      rw [← h5, h4]
      exact av_bool rfl
  cases op with
  | add =>
    obtain ⟨h1, h2⟩ := must_val e
    injection h2 with h2
    obtain ⟨_, _, h3⟩ := den_rng h1
    have h3 : ((p.den.s ++ q.den.s).size : Int) ≤ 1000000000 := h3
    rw [← h2]
    refine ⟨.string (p.den.s ++ q.den.s), fin ?_ hg rfl, sx_str rfl⟩
    rw [ByteArray.size_append] at h3
    have : ¬ ((p.den.s.size + q.den.s.size : Nat) : Int) > IntKind.i64.max := by
      have : IntKind.i64.max = 9223372036854775807 := rfl
      omega
    unfold Op.stringOp
    simp only []
    rw [if_neg this]
    rfl
  | eql => exact eqq (g := fun b => b) rfl hg rfl e
  | neq => exact eqq (g := fun b => !b) rfl hg rfl e
  | _ => cases e
theorem symBool_snd {op : BinOp} {p q : Xp} {z : AV} (e : symBool op p q = .val z) {t : TypeId} (ht : P.underlying t = some .bool) (ox oy : Operand) :
    ∃ r, (do eqGuard op t ox oy (.bool p.den.b) (.bool q.den.b); binOp op t (.bool p.den.b) (.bool q.den.b) : Sem Value).run P w = .ok r w ∧ z.rp ρ r := by
  have hg : (eqGuard op t ox oy (.bool p.den.b) (.bool q.den.b)).run P w = .ok () w := guard_one (fun a h => by cases h) (by simp)
  have hr : (Op.equal t (.bool p.den.b) (.bool q.den.b)).run P w = .ok (p.den.b == q.den.b) w := run_equalIn_bool' w 9999 t _ _ ht
  have val : ∀ {g : Bool → Bool}, (bif eqX p q then .val (.bool (g true)) else askB p fun a => askB q fun b => .val (.bool (g (a == b)))) = .val z → z = .bool (g (p.den.b == q.den.b)) := fun {g} e => by
    cases hx : eqX p q with
    | true =>
      rw [hx] at e
      injection e with e
      rw [← e, eqX_eq hx]
      simp
    | false =>
      rw [hx] at e
      obtain ⟨a, h4, h5⟩ := askB_val e
      obtain ⟨b, h6, h7⟩ := askB_val h5
      injection h7 with h7
      rw [← h7, h4, h6]
      rfl
  cases op with
  | eql =>
    rw [val (g := fun b => b) e]
    refine ⟨.bool (p.den.b == q.den.b), ?_, av_bool rfl⟩
    rw [Sem.run_bind, hg]
    show (do pure (.bool (← Op.equal t (.bool p.den.b) (.bool q.den.b))) : Sem Value).run P w = _
    simp [hr]
  | neq =>
    rw [val (g := fun b => !b) e]
    refine ⟨.bool (!(p.den.b == q.den.b)), ?_, av_bool rfl⟩
    rw [Sem.run_bind, hg]
    show (do pure (.bool (!(← Op.equal t (.bool p.den.b) (.bool q.den.b)))) : Sem Value).run P w = _
    simp [hr]
  | _ => cases e
theorem symBin_snd {op : BinOp} {t : TypeId} {x y z : AV} (e : symBin P op t x y = .val z) {vx vy : Value} (hx : x.rp ρ vx) (hy : y.rp ρ vy) (ox oy : Operand) : ∃ r, (do eqGuard op t ox oy vx vy; binOp op t vx vy : Sem Value).run P w = .ok r w ∧ z.rp ρ r := by
  unfold symBin at e
  split at e
  · rename_i p q h1 h2
    rw [xi_rp h1 hx, xi_rp h2 hy]
    exact symInt_snd e h2
  · split at e
    · rename_i p q h1 h2
      rw [xs_rp h1 hx, xs_rp h2 hy]
      exact symStr_snd e t ox oy
    · split at e
      · rename_i p q h1 h2
        obtain ⟨d, h3, e⟩ := optT_val e
        cases d with
        | bool =>
          rw [xb_rp h1 hx, xb_rp h2 hy]
          exact symBool_snd e h3 ox oy
        | _ => cases e
      · cases e
end
end Go.Proofs.YtdflkikhmngfiaaGreatDoor


/- Operations on what is not known: conversions, lengths, places, parts, loads. -/
namespace Go.Proofs.YtdflkikhmngfiaaGreatDoor
open Go.RowKit
set_option linter.unusedVariables false
set_option linter.unusedSimpArgs false
set_option linter.unusedSectionVars false
variable [Sy] [Dc] [DcOK]
section
variable {P : Program} {B : Nat} {ρ0 ρ : Pm} {h : Heap} {w : World}
theorem isB_some {el : List Sh} (h : isB el = true) : el = [.int .u8] := by
  unfold isB at h
  split at h
  · rfl
  · cases h
/-- A list's cells, in memory. -/
theorem lst_cells {el : List Sh} {p : PV} {v : Value} (h : Sh.rp ρ.fz (.lst el) p v) : ∃ a c, v = .slice a p.l.length c ∧ p.l.length ≤ c ∧ (p.l = [] ∨ ∃ b o, a = some ⟨b, o, none⟩ ∧ ∀ i x, p.l[i]? = some x → Sh.rps ρ.fz el (x.row el.length) fun j => ρ.fz b (o + i * el.length + j)) := by
  simpa only [Sh.rp] using h
theorem bytes_cells {el : TypeId} {p : PV} {b o : Nat} (hr : Rep B ρ h w) (hc : ∀ i x, p.l[i]? = some x → Sh.rps ρ.fz [.int .u8] (x.row 1) fun j => ρ.fz b (o + i * 1 + j)) :
    (loadCells ⟨b, o, none⟩ p.l.length).run P w = .ok (p.l.map fun x => Value.int .u8 x.i).toArray w := by
  have hcell : ∀ i x, p.l[i]? = some x → w.cell? ⟨b, o + i, none⟩ = some (.int .u8 x.i) := fun i x hx => by
    have := hc i x hx
    simp only [Sh.rps, Sh.rp, PV.row] at this
    rw [show [x].headD default = x from rfl] at this
    obtain ⟨⟨u, h1, h2⟩, _⟩ := this
    have := hr.frz _ _ _ h1
    rw [h2] at this
    simpa using this
  have := run_loadCells (P := P) w ⟨b, o, none⟩ p.l.length (fun j => (w.cell? ((⟨b, o, none⟩ : Addr).add j)).getD undef) (fun j hj => by
    obtain ⟨x, hx⟩ : ∃ x, p.l[j]? = some x := ⟨p.l[j], List.getElem?_eq_getElem hj⟩
    rw [addr_add, hcell j x hx]; rfl)
  rw [this]
  congr 2
  apply List.ext_getElem?
  intro i
  rw [List.getElem?_map, List.getElem?_map]
  by_cases hi : i < p.l.length
  · rw [List.getElem?_range hi, List.getElem?_eq_getElem hi]
    show some ((w.cell? ((⟨b, o, none⟩ : Addr).add i)).getD undef) = _
    rw [addr_add, hcell i _ (List.getElem?_eq_getElem hi)]
    rfl
  · rw [List.getElem?_eq_none (by simpa using hi), List.getElem?_eq_none (by omega)]; rfl
theorem push_fold : ∀ (l : List PV) (s : ByteArray), (l.map fun x : PV => x.i).foldl (fun r n => r.push (UInt8.ofNat n.toNat)) s = ⟨s.data ++ (l.map fun p => UInt8.ofNat p.i.toNat).toArray⟩
  | [], s => by simp
  | x :: l, s => by
    rw [List.map_cons, List.foldl_cons, push_fold l]
    simp [ByteArray.push]
theorem symConv_snd (hr : Rep B ρ h w) {s d : TypeId} {x z : AV} (e : symConv P s d x = .val z) {v : Value} (hx : x.rp ρ v) : ∃ v' w', (convert s d v).run P w = .ok v' w' ∧ z.rp (ρ.grow w w') v' ∧ Below w.heap.size w w' := by
  obtain ⟨us, hs, e⟩ := optT_val e
  obtain ⟨ud, hd, e⟩ := optT_val e
  have here : ∀ {v'}, (convert s d v).run P w = .ok v' w → z.rp ρ v' → ∃ v' w', (convert s d v).run P w = .ok v' w' ∧ z.rp (ρ.grow w w') v' ∧ Below w.heap.size w w' := fun {v'} h1 h2 => ⟨v', w, h1, h2.mono (hr.frozen (Below.refl _ _)).1, Below.refl _ _⟩
  cases ud with
  | int k =>
    obtain ⟨p, h1, e⟩ := optT_val e
    injection e with e
    rw [xi_rp h1 hx] at here ⊢
    refine here (v' := .int k (k.wrap p.2.den.i)) (by simp [convert, run_underlying hs, run_underlying hd, Conv.intToInt]) ?_
    rw [← e]
    exact sx_int rfl
  | string =>
    dsimp only at e
    split at e
    · injection e with e
      simp only [AV.rp, Sh.rp] at hx
      subst e
      rw [hx] at here ⊢
      exact here (by simp [convert, run_underlying hs, run_underlying hd]) (sx_str rfl)
    · obtain ⟨p, h1, e⟩ := optT_val e
      obtain ⟨h2, e9⟩ := iffT_val e
      injection e9 with e9
      rw [Bool.and_eq_true] at h2
      obtain ⟨el, rfl, he⟩ := slU8_some h2.1
      have hl := xl_rp h1 hx
      rw [isB_some h2.2] at hl
      obtain ⟨a, c, rfl, hc, hl⟩ := lst_cells hl
      subst e9
      refine here (v' := .string (Xp.ofB p.2).den.s) ?_ (sx_str rfl)
      rw [run_convert_bytes_string w s d el a p.2.den.l.length c hs he hd]
      show _ = Result.ok (Value.string ⟨(p.2.den.l.map fun p => UInt8.ofNat p.i.toNat).toArray⟩) w
      rcases hl with h0 | ⟨b, o, rfl, hcl⟩
      · rw [h0]
        cases a with
        | none => rfl
        | some a => exact run_bytesToString w a 0 c [] rfl
      · rw [run_bytesToString w _ _ c (p.2.den.l.map fun x : PV => x.i) (by rw [bytes_cells hr hcl (el := el)]; simp), push_fold]
        simp
  | slice et =>
    dsimp only at e
    split at e
    · rename_i a _ _
      obtain ⟨h1, e⟩ := iffT_val e
      injection e with e
      simp only [AV.rp, Sh.rp] at hx
      have he := isU8_some h1
      rw [hx]
      have hb : Below w.heap.size w (Lib.bytesWorld w et a.den.s) := ⟨rfl, rfl, rfl, by rw [Lib.bytesWorld_size]; omega, fun k hk => Lib.bytesWorld_at_old w et a.den.s k hk⟩
      refine ⟨_, _, Lib.run_convert_string_bytes w s d et a.den.s hs hd he, ?_, hb⟩
      rw [← e]
      simp only [AV.rp, Sh.rp]
      have hn : (Xp.toB a).den.l = a.den.s.data.toList.map fun b => PV.int (b.toNat : Int) := rfl
      have hlen : (Xp.toB a).den.l.length = a.den.s.size := by rw [hn, List.length_map]; rfl
      refine ⟨_, _, by rw [hlen], by rw [hlen]; exact grownCap_ge _ _ _ _, .inr ⟨_, _, rfl, fun i x hi => ?_⟩⟩
      rw [hn, List.getElem?_map] at hi
      cases hq : a.den.s.data.toList[i]? with
      | none => rw [hq] at hi; cases hi
      | some b =>
        rw [hq] at hi
        injection hi with hi
        subst hi
        have hq2 : a.den.s.data[i]? = some b := by simpa using hq
        have hi2 : i < a.den.s.data.size := (Array.getElem?_eq_some_iff.1 hq2).1
        simp only [Sh.rps, Sh.rp]
        refine ⟨⟨.int .u8 (b.toNat : Int), ?_, rfl⟩, trivial⟩
        show (if w.heap.size ≤ w.heap.size then (Lib.bytesWorld w et a.den.s).cell? ⟨w.heap.size, 0 + i * 1 + 0, none⟩ else _) = _
        rw [if_pos (Nat.le_refl _)]
        unfold World.cell?
        rw [Lib.bytesWorld_at_new]
        simp only [Lib.bytesCells]
        rw [Nat.zero_add, Nat.mul_one, Nat.add_zero, Array.getElem?_append_left (by simpa using hi2), Array.getElem?_map, hq2]
        rfl
    · cases e
  | _ => cases e
theorem symBlt_snd (hr : Rep B ρ h w) {b : Builtin} {ts : Array TypeId} {args : List AV} {z : AV} (e : symBlt P b ts args = .val z) {vs : Array Value} (hv : AV.rps ρ args vs.toList) (ty : TypeId) (cs : Array Bool) :
    ∃ s v, builtin b ts ty cs vs = (do pure (Next.value (← s))) ∧ s.run P w = .ok v w ∧ z.rp ρ v := by
  unfold symBlt at e
  split at e
  · rename_i x
    obtain ⟨d, h1, e⟩ := optT_val e
    obtain ⟨t, h2, h1⟩ := bind_some' h1
    obtain ⟨v, rfl, hx⟩ := rps_l1 hv
    split at e
    · rename_i a _ _
      injection e with e
      simp only [AV.rp, Sh.rp] at hx
      subst hx
      refine ⟨Builtin.len_ ts ty #[.string a.den.s], goInt a.den.s.size, rfl, by simp [Builtin.len_, h2, run_underlying h1], ?_⟩
      rw [← e]
      exact sx_int rfl
    · obtain ⟨p, h3, e⟩ := optT_val e
      injection e with e
      obtain ⟨a, c, rfl, _⟩ := lst_cells (xl_rp h3 hx)
      refine ⟨Builtin.len_ ts ty #[.slice a p.2.den.l.length c], goInt p.2.den.l.length, rfl, by simp [Builtin.len_, h2, run_underlying h1], ?_⟩
      rw [← e]
      exact sx_int rfl
    · cases e
  · rename_i x y
    obtain ⟨p, h1, e⟩ := optT_val e
    obtain ⟨q, h2, e⟩ := optT_val e
    obtain ⟨r, h3, e⟩ := asks_val e
    injection e with e
    injection h3 with h3
    obtain ⟨v, u, rfl, hx, hy⟩ := rps_l2 hv
    rw [xi_rp h1 hx, xi_rp h2 hy]
    have h3 : decide (q.2.den.i < p.2.den.i) = r := h3
    refine ⟨Builtin.min_ ts ty #[.int p.1 p.2.den.i, .int q.1 q.2.den.i], .int p.1 (if q.2.den.i < p.2.den.i then q.2.den.i else p.2.den.i), rfl, by simp [Builtin.min_, Builtin.min2], ?_⟩
    rw [← e]
    cases r with
    | true => rw [if_pos (of_decide_eq_true h3)]; exact sx_int rfl
    | false => rw [if_neg (of_decide_eq_false h3)]; exact sx_int rfl
  · rename_i x y
    obtain ⟨p, h1, e⟩ := optT_val e
    obtain ⟨q, h2, e⟩ := optT_val e
    obtain ⟨r, h3, e⟩ := asks_val e
    injection e with e
    injection h3 with h3
    obtain ⟨v, u, rfl, hx, hy⟩ := rps_l2 hv
    rw [xi_rp h1 hx, xi_rp h2 hy]
    have h3 : decide (p.2.den.i < q.2.den.i) = r := h3
    refine ⟨Builtin.max_ ts ty #[.int p.1 p.2.den.i, .int q.1 q.2.den.i], .int p.1 (if p.2.den.i < q.2.den.i then q.2.den.i else p.2.den.i), rfl, by simp [Builtin.max_, Builtin.max2], ?_⟩
    rw [← e]
    cases r with
    | true => rw [if_pos (of_decide_eq_true h3)]; exact sx_int rfl
    | false => rw [if_neg (of_decide_eq_false h3)]; exact sx_int rfl
  · cases e
end
end Go.Proofs.YtdflkikhmngfiaaGreatDoor


/- Operations on what is not known: the table is sound. -/
namespace Go.Proofs.YtdflkikhmngfiaaGreatDoor
open Go.RowKit
set_option linter.unusedVariables false
set_option linter.unusedSimpArgs false
set_option linter.unusedSectionVars false
variable [Sy] [Dc] [DcOK]
section
variable {P : Program} {B : Nat} {ρ0 ρ : Pm} {h : Heap} {w : World}
theorem cellsX_cons (e i : Xp) (z : Nat) (s : Sh) (el : List Sh) (j : Nat) : cellsX e i z (s :: el) j = .sx s (.get e i z j) :: cellsX e i z el (j + 1) := rfl
/-- The cells of an element, in memory. -/
theorem cellsX_rp {F : Fz} {ρ : Pm} (hF : ρ.fz = F) {e i : Xp} {z : Nat} {c : List PV} (hx : (e.den.l.getD i.den.i.toNat default).row z = c) : ∀ {el : List Sh} {j : Nat} {f : Nat → Option Value}, Sh.rps F el (c.drop j) f → ∃ u : List Value, AV.rps ρ (cellsX e i z el j) u ∧ ∀ q v, u[q]? = some v → f q = some v
  | [], j, f, h => ⟨[], rps_nil.2 rfl, fun q v hq => by simp at hq⟩
  | s :: el, j, f, h => by
    simp only [Sh.rps] at h
    obtain ⟨⟨u, h1, h2⟩, h3⟩ := h
    rw [List.tail_drop] at h3
    obtain ⟨us, k1, k2⟩ := cellsX_rp hF hx h3
    refine ⟨u :: us, rps_cons.2 ⟨u, us, rfl, ?_, k1⟩, fun q v hq => ?_⟩
    · simp only [AV.rp]
      show s.rp ρ.fz (((e.den.l.getD i.den.i.toNat default).row z).getD j default) u
      rw [hx, hF, show c.getD j default = (c.drop j).headD default by simp [List.getD_eq_getElem?_getD, List.headD_eq_head?_getD]]
      exact h2
    · cases q with
      | zero => simp at hq; subst hq; exact h1
      | succ q => exact k2 q v (by simpa using hq)
theorem fp_drop {l : List AV} {v : Value} (h : (AV.fp l).rp ρ v) (k : Nat) : ∃ b o, v = .pointer (some ⟨b, o, none⟩) ∧ (AV.fp (dropL k l)).rp ρ (.pointer (some ⟨b, o + k, none⟩)) := by
  simp only [AV.rp] at h ⊢
  obtain ⟨b, o, u, rfl, h1, h2⟩ := h
  refine ⟨b, o, rfl, b, o + k, u.drop k, rfl, by rw [dropL_eq]; exact rps_drop h1 k, fun i x hi => ?_⟩
  rw [List.getElem?_drop] at hi
  rw [Nat.add_assoc]
  exact h2 _ _ hi
theorem symIdxA_snd {t : TypeId} {x i z : AV} (e : symIdxA P t x i = .val z) {v u : Value} (hx : x.rp ρ v) (hi : i.rp ρ u) : ∃ r, (Instr.indexAt t v u).run P w = .ok r w ∧ z.rp ρ r := by
  unfold symIdxA at e
  split at e
  · rename_i l
    cases i with
    | int k n =>
      obtain ⟨p, h1, e⟩ := optT_val e
      obtain ⟨j, h2, e⟩ := optT_val e
      obtain ⟨sz, h3, e⟩ := optT_val e
      injection e with e
      subst e
      obtain ⟨rfl, hj⟩ := inI_some h2
      simp only [AV.rp] at hi
      subst hi
      obtain ⟨b, o, rfl, h4⟩ := fp_drop hx (j * sz)
      have hj2 : (j : Int) < (p.1 : Int) := by omega
      refine ⟨.pointer (some ⟨b, o + j * sz, none⟩), ?_, h4⟩
      simp [Instr.indexAt, asIntOf, run_underlying (elA_some h1), Instr.sureAddr, run_szO h3, hj, hj2, addr_add]
    | _ => cases e
  · obtain ⟨p, h1, e⟩ := optT_val e
    obtain ⟨q, h2, e⟩ := optT_val e
    obtain ⟨et, h3, e⟩ := optT_val e
    obtain ⟨k, h4, e⟩ := optT_val e
    obtain ⟨h5, e⟩ := iffT_val e
    obtain ⟨h6, e⟩ := must_val e
    injection e with e
    subst e
    rw [Nat.beq_eq, lenL_eq] at h5
    obtain ⟨a, c, rfl, hc, hl⟩ := lst_cells (xl_rp h1 hx)
    obtain ⟨h7, h8⟩ := den_inb h6
    have h8 : q.2.den.i < (p.2.den.l.length : Int) := h8
    rw [xi_rp h2 hi]
    rcases hl with hl | ⟨b, o, rfl, hl⟩
    · rw [hl] at h8; simp at h8; omega
    · obtain ⟨n, hn⟩ : ∃ n : Nat, q.2.den.i = (n : Int) := ⟨q.2.den.i.toNat, by omega⟩
      have hn2 : n < p.2.den.l.length := by omega
      refine ⟨.pointer (some ⟨b, o + n * k, none⟩), ?_, ?_⟩
      · rw [hn]
        have hj2 : (n : Int) < (p.2.den.l.length : Int) := by omega
        simp [Instr.indexAt, asIntOf, run_underlying (elS_some h3), run_szO h4, hn2, hj2, addr_add]
      · have hx2 : (p.2.den.l.getD q.2.den.i.toNat default).row k = p.2.den.l[n].row p.1.length := by
          rw [hn, h5]
          simp [List.getD, hn2]
        obtain ⟨us, k1, k2⟩ := cellsX_rp (j := 0) rfl hx2 (hl n p.2.den.l[n] (List.getElem?_eq_getElem hn2))
        simp only [AV.rp]
        refine ⟨b, o + n * k, us, rfl, k1, fun i x hi => ?_⟩
        have := k2 i x hi
        rw [← h5]
        exact this
theorem symIdx_snd {t : TypeId} {x i z : AV} (e : symIdx P t x i = .val z) {v u : Value} (hx : x.rp ρ v) (hi : i.rp ρ u) : ∃ r, (Instr.index t v u).run P w = .ok r w ∧ z.rp ρ r := by
  obtain ⟨d, hd, e⟩ := optT_val e
  cases d with
  | string =>
    obtain ⟨a, h1, e⟩ := optT_val e
    obtain ⟨q, h2, e⟩ := optT_val e
    obtain ⟨h3, e⟩ := must_val e
    injection e with e
    obtain ⟨h4, h5⟩ := den_inb h3
    have h5 : q.2.den.i < (a.den.s.size : Int) := h5
    rw [xs_rp h1 hx, xi_rp h2 hi, ← e]
    obtain ⟨n, hn⟩ : ∃ n : Nat, q.2.den.i = (n : Int) := ⟨q.2.den.i.toNat, by omega⟩
    have hn2 : n < a.den.s.size := by omega
    refine ⟨.int .u8 ((a.den.s[n]'hn2).toNat : Int), ?_, sx_int ?_⟩
    · rw [hn]
      have hg : a.den.s[n]? = some (a.den.s[n]'hn2) := getElem?_pos a.den.s n hn2
      have hj2 : (n : Int) < (a.den.s.size : Int) := by omega
      simp [Instr.index, asIntOf, run_underlying hd, hg]
    · show _ = Value.int .u8 (((a.den.s.data.toList.getD q.2.den.i.toNat 0).toNat : Nat) : Int)
      rw [hn]
      have hn3 : n < a.den.s.data.toList.length := by simpa using hn2
      have : a.den.s.data.toList.getD ((n : Int)).toNat 0 = a.den.s[n]'hn2 := by
        rw [show ((n : Int)).toNat = n from rfl, List.getD_eq_getElem?_getD, List.getElem?_eq_getElem hn3]
        rfl
      rw [this]
  | _ => cases e
theorem bndX_rp {d : Xp} {o : Option AV} {l : Xp} (e : bndX d o = some l) {vo : Option Value} (h : rpo ρ o vo) : (o = none ∧ vo = none ∧ l = d) ∨ ∃ k, vo = some (.int k l.den.i) := by
  cases o with
  | none => injection e with e; exact .inl ⟨rfl, rpo_none h, e.symm⟩
  | some x =>
    obtain ⟨p, h1, rfl⟩ := Option.map_eq_some_iff.1 (show (xi x).map (·.2) = some l from e)
    cases vo with
    | none => exact h.elim
    | some v => exact .inr ⟨p.1, by rw [xi_rp h1 h]⟩
theorem run_bnd {s : Bool} {len cap l h : Nat} {lo hi : Option Value} (h1 : (lo = none ∧ l = 0) ∨ ∃ k, lo = some (.int k (l : Int))) (h2 : (hi = none ∧ h = len) ∨ ∃ k, hi = some (.int k (h : Int))) (h3 : l ≤ h) (h4 : h ≤ cap) (h5 : len ≤ cap) : (Instr.sliceBounds s len cap lo hi none).run P w = .ok (l, h, cap) w := by
  unfold Instr.sliceBounds
  rcases h1 with ⟨rfl, rfl⟩ | ⟨k1, rfl⟩
  · rcases h2 with ⟨rfl, rfl⟩ | ⟨k2, rfl⟩
    · simp
    · simp [run_bound _ _ _ h4]
  · rcases h2 with ⟨rfl, rfl⟩ | ⟨k2, rfl⟩
    · simp [run_bound _ _ _ h3]
    · simp [run_bound _ _ _ h4, run_bound _ _ _ h3]
theorem symSl_snd {t : TypeId} {x z : AV} {lo hi : Option AV} (e : symSl P t x lo hi = .val z) {v : Value} {vl vh : Option Value} (hx : x.rp ρ v) (hl : rpo ρ lo vl) (hh : rpo ρ hi vh) : ∃ u, (Instr.sliceAt t v vl vh none).run P w = .ok u w ∧ z.rp ρ u := by
  obtain ⟨d, hd, e⟩ := optT_val e
  cases d with
  | string =>
    obtain ⟨a, h1, e⟩ := optT_val e
    obtain ⟨l, h2, e⟩ := optT_val e
    obtain ⟨hx2, h3, e⟩ := optT_val e
    obtain ⟨h4, e⟩ := must_val e
    injection e with e
    obtain ⟨p1, p2, p3⟩ := den_rng h4
    have p3 : hx2.den.i ≤ (a.den.s.size : Int) := p3
    obtain ⟨nl, hnl⟩ : ∃ n : Nat, l.den.i = (n : Int) := ⟨l.den.i.toNat, by omega⟩
    obtain ⟨nh, hnh⟩ : ∃ n : Nat, hx2.den.i = (n : Int) := ⟨hx2.den.i.toNat, by omega⟩
    have q1 : (vl = none ∧ nl = 0) ∨ ∃ k, vl = some (.int k (nl : Int)) := by
      rcases bndX_rp h2 hl with ⟨_, h, rfl⟩ | ⟨k, h⟩
      · refine .inl ⟨h, ?_⟩
        have hnl : (0 : Int) = nl := hnl
        omega
      · exact .inr ⟨k, by rw [h, hnl]⟩
    have q2 : (vh = none ∧ nh = a.den.s.size) ∨ ∃ k, vh = some (.int k (nh : Int)) := by
      rcases bndX_rp h3 hh with ⟨_, h, rfl⟩ | ⟨k, h⟩
      · refine .inl ⟨h, ?_⟩
        have hnh : (a.den.s.size : Int) = nh := hnh
        omega
      · exact .inr ⟨k, by rw [h, hnh]⟩
    have hb := run_bnd (P := P) (w := w) (s := false) (cap := a.den.s.size) q1 q2 (by omega) (by omega) (Nat.le_refl _)
    rw [xs_rp h1 hx, ← e]
    refine ⟨.string (a.den.s.extract nl nh), ?_, sx_str ?_⟩
    · rw [sliceAt_other (fun n e hh => by rw [hd] at hh; cases hh) hd]
      simp [Instr.slice, run_underlying hd, hb]
    · show _ = Value.string (a.den.s.extract l.den.i.toNat hx2.den.i.toNat)
      rw [hnl, hnh]
      rfl
  | slice et =>
    obtain ⟨p, h1, e⟩ := optT_val e
    obtain ⟨k, hk, e⟩ := optT_val e
    obtain ⟨h5, e⟩ := iffT_val e
    obtain ⟨l, h2, e⟩ := optT_val e
    obtain ⟨hx2, h3, e⟩ := optT_val e
    obtain ⟨h4, e⟩ := must_val e
    injection e with e
    rw [Nat.beq_eq, lenL_eq] at h5
    obtain ⟨p1, p2, p3⟩ := den_rng h4
    have p3 : hx2.den.i ≤ (p.2.den.l.length : Int) := p3
    obtain ⟨nl, hnl⟩ : ∃ n : Nat, l.den.i = (n : Int) := ⟨l.den.i.toNat, by omega⟩
    obtain ⟨nh, hnh⟩ : ∃ n : Nat, hx2.den.i = (n : Int) := ⟨hx2.den.i.toNat, by omega⟩
    have q1 : (vl = none ∧ nl = 0) ∨ ∃ k, vl = some (.int k (nl : Int)) := by
      rcases bndX_rp h2 hl with ⟨_, h, rfl⟩ | ⟨k, h⟩
      · refine .inl ⟨h, ?_⟩
        have hnl : (0 : Int) = nl := hnl
        omega
      · exact .inr ⟨k, by rw [h, hnl]⟩
    have q2 : (vh = none ∧ nh = p.2.den.l.length) ∨ ∃ k, vh = some (.int k (nh : Int)) := by
      rcases bndX_rp h3 hh with ⟨_, h, rfl⟩ | ⟨k, h⟩
      · refine .inl ⟨h, ?_⟩
        have hnh : (p.2.den.l.length : Int) = nh := hnh
        omega
      · exact .inr ⟨k, by rw [h, hnh]⟩
    obtain ⟨a, c, rfl, hc, hcl⟩ := lst_cells (xl_rp h1 hx)
    have hb := run_bnd (P := P) (w := w) (s := true) (cap := c) q1 q2 (by omega) (by omega) hc
    have hden : (Xp.subl p.2 l hx2).den.l = (p.2.den.l.take nh).drop nl := by
      show (p.2.den.l.take hx2.den.i.toNat).drop l.den.i.toNat = _
      rw [hnl, hnh]; rfl
    have hlen : (Xp.subl p.2 l hx2).den.l.length = nh - nl := by rw [hden]; simp; omega
    have hrun : (Instr.sliceAt t (.slice a p.2.den.l.length c) vl vh none).run P w = .ok (.slice (if c = nl then a else a.map (·.add (nl * k))) (nh - nl) (c - nl)) w := by
      rw [sliceAt_other (fun n e hh => by rw [hd] at hh; cases hh) hd]
      simp [Instr.slice, run_underlying hd, hb, run_szO hk]
    refine ⟨_, hrun, ?_⟩
    rw [← e]
    simp only [AV.rp, Sh.rp]
    refine ⟨_, _, by rw [hlen], by rw [hlen]; omega, ?_⟩
    by_cases h0 : (Xp.subl p.2 l hx2).den.l = []
    · exact .inl h0
    · right
      have hpos : 0 < nh - nl := by rw [← hlen]; exact List.length_pos_iff.2 h0
      rcases hcl with hcl | ⟨b, o, rfl, hcl⟩
      · rw [hcl] at p3; simp at p3; omega
      · refine ⟨b, o + nl * k, ?_, fun i x hi => ?_⟩
        · rw [if_neg (by omega)]
          simp [addr_add]
        · rw [hden, List.getElem?_drop] at hi
          have hi2 : nl + i < nh := by
            rw [List.getElem?_take] at hi
            by_cases h : nl + i < nh
            · exact h
            · rw [if_neg h] at hi; cases hi
          rw [List.getElem?_take, if_pos hi2] at hi
          have := hcl (nl + i) x hi
          rw [← h5]
          have e9 : ∀ j, o + nl * p.1.length + i * p.1.length + j = o + (nl + i) * p.1.length + j := fun j => by rw [Nat.add_mul]; omega
          simpa only [e9] using this
  | _ => cases e
theorem symLoad_snd (hr : Rep B ρ h w) {t : TypeId} {l : List AV} {z : AV} (e : symLoad P t l = .val z) {v : Value} (hx : (AV.fp l).rp ρ v) : ∃ u, (Instr.loadAt t v).run P w = .ok u w ∧ z.rp ρ u := by
  obtain ⟨ag, h1, e⟩ := optT_val e
  have hrun := run_isAggB h1
  simp only [AV.rp] at hx
  obtain ⟨b, o, us, rfl, hu, hc⟩ := hx
  cases ag with
  | false =>
    obtain ⟨x, h2, e⟩ := optT_val e
    injection e with e
    subst e
    rw [nthL_eq] at h2
    obtain ⟨u, h3, h4⟩ := (rps_at.1 hu).2 0 x h2
    have h5 := hr.frz _ _ _ (hc 0 u h3)
    refine ⟨u, ?_, h4⟩
    simp [Instr.loadAt, Instr.sureAddr, loadVar, hrun, load, Sem.run]
    rw [show o = o + 0 from rfl, h5]
  | true =>
    obtain ⟨k, h2, e⟩ := optT_val e
    obtain ⟨h3, e⟩ := iffT_val e
    injection e with e
    subst e
    rw [Nat.ble_eq, lenL_eq] at h3
    have hul := rps_length hu
    have hcell : ∀ j, j < k → w.cell? ⟨b, o + j, none⟩ = us[j]? := fun j hj => by
      have : us[j]? = some us[j] := List.getElem?_eq_getElem (by omega)
      rw [this]
      exact hr.frz _ _ _ (hc j _ this)
    have hl := run_loadCells (P := P) w ⟨b, o, none⟩ k (fun j => (us[j]?).getD undef) (fun j hj => by
      rw [addr_add, hcell j hj, List.getElem?_eq_getElem (by omega)]; rfl)
    have e9 : ((List.range k).map fun j => (us[j]?).getD undef) = us.take k := by
      apply List.ext_getElem?
      intro i
      rw [List.getElem?_map]
      by_cases hi : i < k
      · rw [List.getElem?_range hi, List.getElem?_take, if_pos hi, List.getElem?_eq_getElem (show i < us.length by omega)]
        show some ((us[i]?).getD undef) = _
        rw [List.getElem?_eq_getElem (show i < us.length by omega)]; rfl
      · rw [List.getElem?_eq_none (by simpa using hi), List.getElem?_take, if_neg hi]; rfl
    rw [e9] at hl
    refine ⟨.agg (us.take k).toArray, by simp [Instr.loadAt, Instr.sureAddr, loadVar, hrun, run_szO h2, hl], ?_⟩
    simp only [AV.rp]
    exact ⟨_, rfl, by rw [takeL_eq]; simpa using rps_take hu k⟩
theorem symFld_snd {t : TypeId} {l : List AV} {f : Nat} {z : AV} (e : symFld P t l f = .val z) {v : Value} (hx : (AV.fp l).rp ρ v) : ∃ u, (Instr.fieldAt t v f).run P w = .ok u w ∧ z.rp ρ u := by
  obtain ⟨fs, h1, e⟩ := optT_val e
  obtain ⟨fd, h2, e⟩ := optT_val e
  obtain ⟨k, h3, e⟩ := optT_val e
  obtain ⟨h4, e⟩ := iffT_val e
  injection e with e
  subst e
  have hk : k ≠ 0 := fun hk => by rw [hk] at h4; cases h4
  obtain ⟨b, o, rfl, h5⟩ := fp_drop hx fd.offset
  refine ⟨_, ?_, h5⟩
  simp [Instr.fieldAt, run_underlying (flds_some h1), h2, Instr.sureAddr, fieldPlace, run_szO h3, hk, addr_add]
theorem symTab_snd : TabSnd P B ρ0 (symTab P) := by
  intro o args x e ρ h act w hle hr hv
  obtain ⟨dst, op, type, pos, after, guard⟩ := o
  have e : symTab P op args = .val x := e
  cases op with
  | binOp op2 t a b t2 =>
    obtain ⟨y, z, rfl, hy, hz⟩ := rps_r2 hv
    obtain ⟨r, m1, m2⟩ := symBin_snd (P := P) (w := w) (show symBin P op2 t y z = .val x from e) hy hz a b
    exact tab_here hr rfl m1 m2
  | convert s d a =>
    obtain ⟨y, rfl, hy⟩ := rps_r1 hv
    obtain ⟨r, w', m1, m2, m3⟩ := symConv_snd hr (show symConv P s d y = .val x from e) hy
    exact ⟨r, w', val_run m1, m2, m3⟩
  | call cl =>
    obtain ⟨callee, cargs, cts⟩ := cl
    cases callee with
    | builtin b =>
      have hv : AV.rps ρ args (cargs.map act.eval).toList := by simpa [Op.operands, Call.operands] using hv
      obtain ⟨s, r, m0, m1, m2⟩ := symBlt_snd (ty := type) (cs := cargs.map fun | .const _ => true | _ => false) hr (show symBlt P b cts args = .val x from e) hv
      refine tab_here hr (s := s) ?_ m1 m2
      show ((resolve act.eval ⟨.builtin b, cargs, cts⟩ type) >>= fun d => invoke d.target d.args) = _
      exact m0
    | _ => cases e
  | indexAddr t a b =>
    obtain ⟨y, z, rfl, hy, hz⟩ := rps_r2 hv
    obtain ⟨r, m1, m2⟩ := symIdxA_snd (P := P) (w := w) (show symIdxA P t y z = .val x from e) hy hz
    exact tab_here hr rfl m1 m2
  | index t a b =>
    obtain ⟨y, z, rfl, hy, hz⟩ := rps_r2 hv
    obtain ⟨r, m1, m2⟩ := symIdx_snd (P := P) (w := w) (show symIdx P t y z = .val x from e) hy hz
    exact tab_here hr rfl m1 m2
  | slice t a lo hi mx =>
    cases args with
    | nil => cases mx <;> cases e
    | cons y l =>
      cases mx with
      | some _ => cases e
      | none =>
        have hv : AV.rps ρ (y :: l) (act.eval a :: ((lo.toArray.toList.map act.eval) ++ ((hi.toArray.toList.map act.eval) ++ []))) := by
          simpa [Op.operands] using hv
        rw [rps_cons] at hv
        obtain ⟨v, m, h1, hy, hl⟩ := hv
        injection h1 with h1 h2
        subst h1 h2
        obtain ⟨s, h3, e⟩ := optT_val (show optT ((takeO lo.isSome l).bind fun p => (takeO hi.isSome p.2).map fun q => (p.1, q.1)) (fun s => symSl P t y s.1 s.2) = .val x from e)
        obtain ⟨p, h4, h3⟩ := bind_some' h3
        obtain ⟨q, h5, h3⟩ := Option.map_eq_some_iff.1 h3
        subst h3
        obtain ⟨k1, k2⟩ := takeO_snd h4 hl
        obtain ⟨k3, k4⟩ := takeO_snd h5 k2
        obtain ⟨r, m1, m2⟩ := symSl_snd (P := P) (w := w) e hy k1 k3
        exact tab_here hr rfl m1 m2
  | load t a =>
    obtain ⟨y, rfl, hy⟩ := rps_r1 hv
    cases y with
    | fp l =>
      obtain ⟨r, m1, m2⟩ := symLoad_snd (P := P) hr (show symLoad P t l = .val x from e) hy
      exact tab_here hr rfl m1 m2
    | _ => cases e
  | fieldAddr t a f =>
    obtain ⟨y, rfl, hy⟩ := rps_r1 hv
    cases y with
    | fp l =>
      obtain ⟨r, m1, m2⟩ := symFld_snd (P := P) (w := w) (show symFld P t l f = .val x from e) hy
      exact tab_here hr rfl m1 m2
    | _ => cases e
  | nilCheck a =>
    obtain ⟨y, rfl, hy⟩ := rps_r1 hv
    cases y with
    | fp l =>
      injection (show Tb.val (AV.fp l) = .val x from e) with e
      subst e
      have hy0 := hy
      simp only [AV.rp] at hy
      obtain ⟨b, o, us, hva, _⟩ := hy
      exact ⟨_, w, by simp [execOp, hva], hva ▸ hy0.mono (hr.frozen (Below.refl _ _)).1, Below.refl _ _⟩
    | _ => cases e
  | unOp op2 t a =>
    obtain ⟨y, rfl, hy⟩ := rps_r1 hv
    cases y with
    | sx s c =>
      cases s with
      | bool =>
        cases op2 <;> cases e
      | int k =>
        cases op2 with
        | neg =>
          injection (show Tb.val (AV.sx (.int k) (.bin .sub k (.int 0) c)) = .val x from e) with e
          subst e
          simp only [AV.rp, Sh.rp] at hy
          exact ⟨.int k (k.wrap (0 - c.den.i)), w, by simp [execOp, hy, Op.unary, Op.intArith], by simp only [AV.rp, Sh.rp]; rfl, Below.refl _ _⟩
        | _ => cases e
      | _ => cases op2 <;> cases e
    | _ => cases op2 <;> cases e
  | pick a b c =>
    obtain ⟨q, y, z, rfl, hq, hy, hz⟩ := rps_r3 hv
    cases q with
    | sx s c => cases s <;> cases e
    | _ => cases e
  | _ => first | cases e | (cases args <;> cases e)
end
end Go.Proofs.YtdflkikhmngfiaaGreatDoor

