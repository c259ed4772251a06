/- EyN · EyO: joined by a program, for a claim has at most 60 files. -/
import Derived.Test.YtdflkikhmngfiaaDoorC07
import Derived.WideShapes
import Derived.Laws.Strings
import Derived.Laws.Tables
import Derived.Great.BuildSlice
/- The machine's values and places, in the program. -/
namespace Go.Proofs.YtdflkikhmngfiaaDoor
open Go.RowKit
set_option linter.unusedVariables false
set_option linter.unusedSimpArgs false
set_option linter.unusedSectionVars false
variable [Sy] [Dc] [DcOK]

theorem rps_drop {ρ : Pm} {l : List AV} {m : List Value} (h : AV.rps ρ l m) (k : Nat) : AV.rps ρ (l.drop k) (m.drop k) := by
  obtain ⟨h1, h2⟩ := rps_at.1 h
  refine rps_at.2 ⟨by simp [h1], fun i x hx => ?_⟩
  rw [List.getElem?_drop] at hx ⊢
  exact h2 _ x hx
theorem rps_take {ρ : Pm} {l : List AV} {m : List Value} (h : AV.rps ρ l m) (k : Nat) : AV.rps ρ (l.take k) (m.take k) := by
  obtain ⟨h1, h2⟩ := rps_at.1 h
  refine rps_at.2 ⟨by simp [h1], fun i x hx => ?_⟩
  rw [List.getElem?_take] at hx ⊢
  split at hx
  · rename_i hi
    rw [if_pos hi]
    exact h2 _ x hx
  · cases hx
theorem inI_some {i : Int} {n j : Nat} (e : inI i n = some j) : i = (j : Int) ∧ j < n := by
  cases i with
  | negSucc m => cases e
  | ofNat m =>
    have e : (bif Nat.blt m n then some m else none) = some j := e
    by_cases h : m < n
    · rw [blt_t h] at e
      injection e with e
      subst e
      exact ⟨rfl, h⟩
    · rw [blt_f h] at e
      cases e
theorem bif_some {α : Type} {b : Bool} {x : Option α} {y : α} (e : (bif b then x else none) = some y) : b = true ∧ x = some y := by
  cases b with
  | false => cases e
  | true => exact ⟨rfl, e⟩
theorem bind_some' {α β : Type} {o : Option α} {f : α → Option β} {y : β} (e : o.bind f = some y) : ∃ x, o = some x ∧ f x = some y := by
  cases o with
  | none => cases e
  | some x => exact ⟨x, rfl, e⟩
section
variable {P : Program} {ρ : Pm} {w : World}
theorem part_snd {t : TypeId} {l : List AV} {off : Nat} {y : AV} (e : partV P t l off = some y) {cs : Array Value} (hl : AV.rps ρ l cs.toList) : ∃ v, (part t cs off).run P w = .ok v w ∧ y.rp ρ v := by
  obtain ⟨b, hb, e⟩ := bind_some' e
  have hrun := run_isAggB hb w
  cases b with
  | false =>
    have e : nthL l off = some y := e
    rw [nthL_eq] at e
    obtain ⟨v, h1, h2⟩ := (rps_at.1 hl).2 off y e
    have h1 : cs[off]? = some v := by simpa using h1
    exact ⟨v, by simp [part, hrun, h1], h2⟩
  | true =>
    have e : (szO P t).bind (fun k => bif Nat.ble (Nat.add off k) (lenL l) then some (.agg (rdyL (takeL k (dropL off l)))) else none) = some y := e
    obtain ⟨k, hk, e⟩ := bind_some' e
    obtain ⟨hle, e⟩ := bif_some e
    injection e with e
    subst e
    rw [rdyL_eq, takeL_eq, dropL_eq]
    refine ⟨.agg (cs.extract off (off + k)), by simp [part, hrun, run_szO hk], ?_⟩
    simp only [AV.rp]
    refine ⟨_, rfl, ?_⟩
    rw [Array.toList_extract, List.extract_eq_take_drop, Nat.add_sub_cancel_left]
    exact rps_take (rps_drop hl off) k
theorem flds_some {t : TypeId} {fs : Array Field} (e : flds P t = some fs) : P.underlying t = some (.struct fs) := by
  unfold flds at e
  split at e
  · rename_i h; injection e with e; subst e; exact h
  · cases e
theorem field_snd {t : TypeId} {x y : AV} {v : Value} {f : Nat} (e : fieldV P t x f = some y) (hx : x.rp ρ v) : ∃ u, (Instr.field t v f).run P w = .ok u w ∧ y.rp ρ u := by
  cases x with
  | agg l =>
    obtain ⟨fs, h1, e⟩ := bind_some' (show (flds P t).bind (fun fs => (fs[f]?).bind fun f => partV P f.type l f.offset) = some y from e)
    obtain ⟨fd, h2, e⟩ := bind_some' e
    simp only [AV.rp] at hx
    obtain ⟨cs, rfl, hl⟩ := hx
    obtain ⟨u, k1, k2⟩ := part_snd (w := w) e hl
    exact ⟨u, by simp [Instr.field, run_underlying (flds_some h1), h2, asAgg, k1], k2⟩
  | _ => cases e
theorem fieldAddr_snd {t : TypeId} {x y : AV} {v : Value} {f : Nat} (e : fieldAddrV P t x f = some y) (hx : x.rp ρ v) : ∃ u, (Instr.fieldAt t v f).run P w = .ok u w ∧ y.rp ρ u := by
  cases x with
  | ptr n o =>
    obtain ⟨fs, h1, e⟩ := bind_some' (show (flds P t).bind (fun fs => (fs[f]?).bind fun f => (szO P f.type).bind fun k => bif Nat.beq k 0 then none else fNat (Nat.add o f.offset) fun o => some (.ptr n o)) = some y from e)
    obtain ⟨fd, h2, e⟩ := bind_some' e
    obtain ⟨k, h3, e⟩ := bind_some' e
    have hk : k ≠ 0 := fun hk => by rw [hk] at e; cases e
    rw [beq_f hk] at e
    have e : fNat (Nat.add o fd.offset) (fun o => some (AV.ptr n o)) = some y := e
    rw [fNat_eq] at e
    injection e with e
    subst e
    simp only [AV.rp] at hx
    obtain ⟨b, g, c, hn, rfl⟩ := hx
    refine ⟨.pointer (some ⟨b, g + (o + fd.offset), none⟩), ?_, by simp only [AV.rp]; exact ⟨b, g, c, hn, rfl⟩⟩
    simp [Instr.fieldAt, run_underlying (flds_some h1), h2, Instr.sureAddr, fieldPlace, run_szO h3, hk, addr_add, Nat.add_assoc]
  | _ => cases e
theorem elS_some {t e : TypeId} (h : elS P t = some e) : P.underlying t = some (.slice e) := by
  unfold elS at h
  split at h
  · rename_i k; injection h with h; subst h; exact k
  · cases h
theorem elA_some {t : TypeId} {p : Nat × TypeId} (h : elA P t = some p) : P.underlying t = some (.array p.1 p.2) := by
  unfold elA at h
  split at h
  · rename_i k; injection h with h; subst h; exact k
  · cases h
theorem indexAddr_snd {t : TypeId} {x i y : AV} {v u : Value} (e : indexAddrV P t x i = some y) (hx : x.rp ρ v) (hi : i.rp ρ u) : ∃ r, (Instr.indexAt t v u).run P w = .ok r w ∧ y.rp ρ r := by
  cases i with
  | int k i =>
    simp only [AV.rp] at hi
    subst hi
    cases x with
    | ptr n o =>
      obtain ⟨p, h1, e⟩ := bind_some' (show (elA P t).bind (fun p => (inI i p.1).bind fun i => (szO P p.2).bind fun k => fNat (Nat.add o (Nat.mul i k)) fun o => some (.ptr n o)) = some y from e)
      obtain ⟨j, h2, e⟩ := bind_some' e
      obtain ⟨sz, h3, e⟩ := bind_some' e
      rw [fNat_eq] at e
      injection e with e
      subst e
      obtain ⟨rfl, hj⟩ := inI_some h2
      simp only [AV.rp] at hx
      obtain ⟨b, g, c, hn, rfl⟩ := hx
      have hj2 : (j : Int) < (p.1 : Int) := by omega
      refine ⟨.pointer (some ⟨b, g + (o + j * sz), none⟩), ?_, by simp only [AV.rp]; exact ⟨b, g, c, hn, rfl⟩⟩
      simp [Instr.indexAt, asIntOf, run_underlying (elA_some h1), Instr.sureAddr, run_szO h3, hj, hj2, addr_add, Nat.add_assoc]
    | sl n o len cap =>
      obtain ⟨el, h1, e⟩ := bind_some' (show (elS P t).bind (fun e => (inI i len).bind fun i => (szO P e).bind fun k => fNat (Nat.add o (Nat.mul i k)) fun o => some (.ptr n o)) = some y from e)
      obtain ⟨j, h2, e⟩ := bind_some' e
      obtain ⟨sz, h3, e⟩ := bind_some' e
      rw [fNat_eq] at e
      injection e with e
      subst e
      obtain ⟨rfl, hj⟩ := inI_some h2
      simp only [AV.rp] at hx
      obtain ⟨b, g, c, hn, rfl⟩ := hx
      have hj2 : (j : Int) < (len : Int) := by omega
      refine ⟨.pointer (some ⟨b, g + (o + j * sz), none⟩), ?_, by simp only [AV.rp]; exact ⟨b, g, c, hn, rfl⟩⟩
      simp [Instr.indexAt, asIntOf, run_underlying (elS_some h1), run_szO h3, hj, hj2, addr_add, Nat.add_assoc]
    | os n z f len =>
      obtain ⟨el, h1, e⟩ := bind_some' (show (elS P t).bind (fun el => (inI i len).bind fun i => (szO P el).bind fun k => bif Nat.beq k z then fNat (Nat.mul (Nat.add f i) k) fun o => some (.ptr n o) else none) = some y from e)
      obtain ⟨j, h2, e⟩ := bind_some' e
      obtain ⟨sz, h3, e⟩ := bind_some' e
      obtain ⟨hz, e5⟩ := bif_some e
      obtain rfl := Nat.eq_of_beq_eq_true hz
      rw [fNat_eq] at e5
      injection e5 with e5
      subst e5
      obtain ⟨rfl, hj⟩ := inI_some h2
      simp only [AV.rp] at hx
      obtain ⟨b, g, c, hn, hlc, rfl⟩ := hx
      have hj2 : (j : Int) < (len : Int) := by omega
      refine ⟨.pointer (some ⟨b, g + (f + j) * sz, none⟩), ?_, by simp only [AV.rp]; exact ⟨b, g, c, hn, rfl⟩⟩
      have : g + f * sz + j * sz = g + (f + j) * sz := by rw [Nat.add_mul, Nat.add_assoc]
      simp [Instr.indexAt, asIntOf, run_underlying (elS_some h1), run_szO h3, hj, hj2, addr_add, this]
    | _ => cases e
  | _ => cases e
theorem index_snd {t : TypeId} {x i y : AV} {v u : Value} (e : indexV P t x i = some y) (hx : x.rp ρ v) (hi : i.rp ρ u) : ∃ r, (Instr.index t v u).run P w = .ok r w ∧ y.rp ρ r := by
  cases i with
  | int k i =>
    simp only [AV.rp] at hi
    subst hi
    cases x with
    | str l =>
      unfold indexV at e
      dsimp only at e
      split at e
      · rename_i hu
        cases i with
        | negSucc m => cases e
        | ofNat m =>
          obtain ⟨b, h1, e⟩ := bind_some' (show (nthL l m).bind (fun b => some (.int .u8 (.ofNat b))) = some y from e)
          injection e with e
          subst e
          rw [nthL_eq] at h1
          simp only [AV.rp] at hx
          obtain ⟨hlt, rfl⟩ := hx
          have hb := hlt b (List.mem_of_getElem? h1)
          have hm : m < l.length := (List.getElem?_eq_some_iff.1 h1).1
          refine ⟨.int .u8 (b : Int), ?_, by simp only [AV.rp]; rfl⟩
          have hg : (bytesOf l)[m]? = some (UInt8.ofNat b) := by
            have hs : m < (bytesOf l).size := by rw [bytesOf_size]; exact hm
            rw [getElem?_pos (bytesOf l) m hs]
            congr 1
            show (bytesOf l).data[m] = _
            have : (bytesOf l).data[m]? = some (UInt8.ofNat b) := by simp [bytesOf, h1]
            exact (Array.getElem?_eq_some_iff.1 this).2
          have hn : ((UInt8.ofNat b).toNat : Int) = (b : Int) := by
            rw [UInt8.toNat_ofNat_of_lt' hb]
          simp [Instr.index, asIntOf, run_underlying hu, hg, hn]
          omega
      · cases e
    | agg l =>
      obtain ⟨p, h1, e⟩ := bind_some' (show (elA P t).bind (fun p => (inI i p.1).bind fun i => (szO P p.2).bind fun k => partV P p.2 l (Nat.mul i k)) = some y from e)
      obtain ⟨j, h2, e⟩ := bind_some' e
      obtain ⟨sz, h3, e5⟩ := bind_some' e
      obtain ⟨rfl, hj⟩ := inI_some h2
      have hj2 : (j : Int) < (p.1 : Int) := by omega
      simp only [AV.rp] at hx
      obtain ⟨cs, rfl, hl⟩ := hx
      obtain ⟨r, k1, k2⟩ := part_snd (w := w) e5 hl
      refine ⟨r, ?_, k2⟩
      have k1 : (part p.2 cs (j * sz)).run P w = .ok r w := k1
      simp [Instr.index, asIntOf, run_underlying (elA_some h1), run_szO h3, hj, hj2, k1]
    | _ => cases e
  | _ => cases e
end
end Go.Proofs.YtdflkikhmngfiaaDoor


/- The machine's texts, slices and literals, in the program. -/
namespace Go.Proofs.YtdflkikhmngfiaaDoor
open Go.RowKit
set_option linter.unusedVariables false
set_option linter.unusedSimpArgs false
set_option linter.unusedSectionVars false
variable [Sy] [Dc] [DcOK]

theorem bytesOf_tl (l : List Nat) : (bytesOf l).toList = l.map UInt8.ofNat := by rw [ByteArray.toList_eq]; exact bytesOf_toList l
theorem ofNat_inj {a b : Nat} (ha : a < 256) (hb : b < 256) (h : UInt8.ofNat a = UInt8.ofNat b) : a = b := by
  have := congrArg UInt8.toNat h
  rwa [UInt8.toNat_ofNat_of_lt' ha, UInt8.toNat_ofNat_of_lt' hb] at this
theorem map_ofNat_inj : ∀ {l m : List Nat}, (∀ b ∈ l, b < 256) → (∀ b ∈ m, b < 256) → l.map UInt8.ofNat = m.map UInt8.ofNat → l = m
  | [], [], _, _, _ => rfl
  | [], _ :: _, _, _, h => by simp at h
  | _ :: _, [], _, _, h => by simp at h
  | x :: l, y :: m, h1, h2, h => by
    simp only [List.map_cons, List.cons.injEq] at h
    rw [ofNat_inj (h1 x (by simp)) (h2 y (by simp)) h.1, map_ofNat_inj (fun b hb => h1 b (by simp [hb])) (fun b hb => h2 b (by simp [hb])) h.2]
theorem map_ofNat_beq {l m : List Nat} (h1 : ∀ b ∈ l, b < 256) (h2 : ∀ b ∈ m, b < 256) : (l.map UInt8.ofNat == m.map UInt8.ofNat) = (l == m) := by
  by_cases h : l = m
  · subst h; simp
  · have : l.map UInt8.ofNat ≠ m.map UInt8.ofNat := fun k => h (map_ofNat_inj h1 h2 k)
    rw [beq_eq_false_iff_ne.2 h, beq_eq_false_iff_ne.2 this]
theorem ltL_eq : ∀ {l m : List Nat}, (∀ b ∈ l, b < 256) → (∀ b ∈ m, b < 256) → Op.bytesLess (l.map UInt8.ofNat) (m.map UInt8.ofNat) = ltL l m
  | [], [], _, _ => rfl
  | [], _ :: _, _, _ => rfl
  | _ :: _, [], _, _ => rfl
  | x :: l, y :: m, h1, h2 => by
    have hx := h1 x (by simp)
    have hy := h2 y (by simp)
    have e : ltL (x :: l) (y :: m) = Bool.rec (motive := fun _ => Bool) (Bool.rec (motive := fun _ => Bool) false (ltL l m) (Nat.beq x y)) true (Nat.blt x y) := rfl
    rw [e, List.map_cons, List.map_cons, Op.bytesLess, ltL_eq (fun b hb => h1 b (by simp [hb])) (fun b hb => h2 b (by simp [hb]))]
    have hlt : (UInt8.ofNat x < UInt8.ofNat y) ↔ x < y := by
      rw [UInt8.lt_iff_toNat_lt, UInt8.toNat_ofNat_of_lt' hx, UInt8.toNat_ofNat_of_lt' hy]
    by_cases h : x < y
    · rw [blt_t h, decide_eq_true (hlt.2 h)]; rfl
    · rw [blt_f h, decide_eq_false (fun k => h (hlt.1 k))]
      by_cases he : x = y
      · subst he
        rw [beq_t rfl]; simp
      · rw [beq_f he]
        have : ¬ UInt8.ofNat x = UInt8.ofNat y := fun k => he (ofNat_inj hx hy k)
        simp [this]
theorem bytesOf_app (a b : List Nat) : bytesOf a ++ bytesOf b = bytesOf (a ++ b) := by
  apply Go.WideShapes.bytes_inj
  simp [bytesOf]
section
variable {P : Program} {ρ : Pm} {w : World}
theorem strOp_snd {op : BinOp} {a b : List Nat} {z : AV} (e : strOp op a b = some z) (ha : ∀ x ∈ a, x < 256) (hb : ∀ x ∈ b, x < 256) (t : TypeId) :
    ∃ v, (binOp op t (.string (bytesOf a)) (.string (bytesOf b))).run P w = .ok v w ∧ z.rp ρ v := by
  have heq := map_ofNat_beq ha hb
  have hlt := ltL_eq ha hb
  have hrun : (binOp op t (.string (bytesOf a)) (.string (bytesOf b))) = Op.stringOp op (bytesOf a) (bytesOf b) := by cases op <;> rfl
  rw [hrun]
  unfold Op.stringOp
  simp only [bytesOf_tl, heq, hlt]
  cases op with
  | add =>
    obtain ⟨h1, e⟩ := bif_some (show (bif Nat.blt (Nat.add (lenL a) (lenL b)) 1000000 then sv (appL a b) else none) = some z from e)
    rw [lenL_eq, lenL_eq, blt_iff] at h1
    have h1 : a.length + b.length < 1000000 := h1
    rw [sv_eq, appL_eq] at e
    injection e with e
    subst e
    have hm : ¬ (((bytesOf a).size + (bytesOf b).size : Nat) : Int) > IntKind.i64.max := by
      rw [bytesOf_size, bytesOf_size, show IntKind.i64.max = 9223372036854775807 from rfl]
      omega
    refine ⟨.string (bytesOf a ++ bytesOf b), by dsimp only; rw [if_neg hm]; rfl, ?_⟩
    simp only [AV.rp]
    exact ⟨fun x hx => by rcases List.mem_append.1 hx with h | h; exact ha x h; exact hb x h, by rw [bytesOf_app]⟩
  | eql => simp only [strOp, bv, eqL_eq, Option.some.injEq] at e; subst e; exact ⟨_, rfl, by simp only [AV.rp]⟩
  | neq => simp only [strOp, bv, eqL_eq, Option.some.injEq] at e; subst e; exact ⟨_, rfl, by simp only [AV.rp]⟩
  | lss => simp only [strOp, bv, eqL_eq, Option.some.injEq] at e; subst e; exact ⟨_, rfl, by simp only [AV.rp]⟩
  | leq => simp only [strOp, bv, eqL_eq, Option.some.injEq] at e; subst e; exact ⟨_, rfl, by simp only [AV.rp]⟩
  | gtr => simp only [strOp, bv, eqL_eq, Option.some.injEq] at e; subst e; exact ⟨_, rfl, by simp only [AV.rp]⟩
  | geq => simp only [strOp, bv, eqL_eq, Option.some.injEq] at e; subst e; exact ⟨_, rfl, by simp only [AV.rp]⟩
  | _ => cases e
theorem unV_snd {op : UnOp} {x y : AV} {v : Value} (e : unV op x = some y) (hx : x.rp ρ v) : ∃ u, (Op.unary op v).run P w = .ok u w ∧ y.rp ρ u := by
  cases x with
  | bool b =>
    simp only [AV.rp] at hx
    subst hx
    cases op with
    | not => injection e with e; subst e; exact ⟨.bool (!b), rfl, by simp only [AV.rp]⟩
    | _ => cases e
  | int k n =>
    simp only [AV.rp] at hx
    subst hx
    cases op with
    | neg =>
      have e : iv k (Int.sub 0 n) = some y := e
      rw [iv_eq] at e
      injection e with e
      subst e
      exact ⟨.int k (k.wrap (0 - n)), rfl, by simp only [AV.rp]; rfl⟩
    | xor =>
      have e : iv k (BitVec.ofInt k.bits (if k.signed then -1 else k.max) ^^^ BitVec.ofInt k.bits n).toNat = some y := e
      rw [iv_eq] at e
      injection e with e
      subst e
      exact ⟨.int k (k.wrap (BitVec.ofInt k.bits (if k.signed then -1 else k.max) ^^^ BitVec.ofInt k.bits n).toNat), rfl, by simp only [AV.rp]⟩
    | _ => cases e
  | _ => cases op <;> cases e
/-- A bound, in the program. -/
theorem bnd1_some {d : Nat} {v : Option AV} {y j : Nat} (e : bnd1 d v y = some j) : (v = none ∧ j = d) ∨ ∃ k, v = some (.int k (j : Int)) ∧ j ≤ y := by
  cases v with
  | none => injection e with e; exact .inl ⟨rfl, e.symm⟩
  | some x =>
    cases x with
    | int k i =>
      obtain ⟨rfl, h⟩ := inI_some (show inI i (Nat.succ y) = some j from e)
      exact .inr ⟨k, rfl, by omega⟩
    | _ => cases e
/-- A value that may lack. -/
def rpo (ρ : Pm) : Option AV → Option Value → Prop
  | none, none => True
  | some x, some v => x.rp ρ v
  | _, _ => False
theorem rpo_none {ρ : Pm} {v : Option Value} (h : rpo ρ none v) : v = none := by cases v with | none => rfl | some _ => exact h.elim
theorem rpo_int {ρ : Pm} {k : IntKind} {i : Int} {v : Option Value} (h : rpo ρ (some (.int k i)) v) : v = some (.int k i) := by
  cases v with
  | none => exact h.elim
  | some v => exact congrArg some (by simpa only [rpo, AV.rp] using h)
theorem run_bound (k : IntKind) (j y : Nat) (h : j ≤ y) (code : BoundsCode) : (Instr.sliceBound (.int k (j : Int)) y code).run P w = .ok j w := by
  have : (0 : Int) ≤ j ∧ (j : Int) ≤ (y : Int) := by omega
  simp [Instr.sliceBound, asIntOf, this]
theorem bounds_snd {s : Bool} {len cap : Nat} {lo hi mx : Option AV} {m hh l : Nat} (e1 : bnd1 cap mx cap = some m) (e2 : bnd1 len hi m = some hh) (e3 : bnd1 0 lo hh = some l) (hm : mx.isSome = true → hi.isSome = true) {vl vh vm : Option Value} (hl : rpo ρ lo vl) (hhi : rpo ρ hi vh) (hmx : rpo ρ mx vm) :
    (Instr.sliceBounds s len cap vl vh vm).run P w = .ok (l, hh, m) w := by
  unfold Instr.sliceBounds
  rcases bnd1_some e1 with ⟨rfl, rfl⟩ | ⟨k1, rfl, q1⟩
  · obtain rfl := rpo_none hmx
    rcases bnd1_some e2 with ⟨rfl, rfl⟩ | ⟨k2, rfl, q2⟩
    · obtain rfl := rpo_none hhi
      rcases bnd1_some e3 with ⟨rfl, rfl⟩ | ⟨k3, rfl, q3⟩
      · obtain rfl := rpo_none hl
        simp
      · obtain rfl := rpo_int hl
        simp [run_bound _ _ _ q3]
    · obtain rfl := rpo_int hhi
      rcases bnd1_some e3 with ⟨rfl, rfl⟩ | ⟨k3, rfl, q3⟩
      · obtain rfl := rpo_none hl
        simp [run_bound _ _ _ q2]
      · obtain rfl := rpo_int hl
        simp [run_bound _ _ _ q2, run_bound _ _ _ q3]
  · obtain rfl := rpo_int hmx
    rcases bnd1_some e2 with ⟨rfl, rfl⟩ | ⟨k2, rfl, q2⟩
    · cases hm rfl
    · obtain rfl := rpo_int hhi
      rcases bnd1_some e3 with ⟨rfl, rfl⟩ | ⟨k3, rfl, q3⟩
      · obtain rfl := rpo_none hl
        simp [run_bound _ _ _ q1, run_bound _ _ _ q2]
      · obtain rfl := rpo_int hl
        simp [run_bound _ _ _ q1, run_bound _ _ _ q2, run_bound _ _ _ q3]
end
end Go.Proofs.YtdflkikhmngfiaaDoor

