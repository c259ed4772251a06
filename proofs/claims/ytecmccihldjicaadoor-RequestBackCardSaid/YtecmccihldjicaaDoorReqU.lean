/- A request's own fields are read as it was. -/
import Derived.Test.YtecmccihldjicaaDoorReqS
namespace Go.Proofs.YtecmccihldjicaaDoor
open Go.RowKit
set_option linter.unusedVariables false
set_option linter.unusedSimpArgs false

theorem digit_val (d : Nat) (h : d < 10) : (UInt8.ofNat (48 + d)).toNat = 48 + d := by simp; omega
theorem dec_val : ∀ n : Nat, numVal (Lib.decDigits n) = n := by
  intro n
  induction n using Nat.strongRecOn with
  | _ n ih =>
    rw [Lib.decDigits]
    split
    · rename_i h
      show 0 * 10 + ((UInt8.ofNat (48 + n)).toNat - 48) = n
      rw [digit_val n h]
      omega
    · rename_i h
      rw [numVal_snoc, ih (n / 10) (by omega), digit_val _ (Nat.mod_lt _ (by omega))]
      omega
theorem dec_dig : ∀ n : Nat, (Lib.decDigits n).all digB = true := by
  intro n
  induction n using Nat.strongRecOn with
  | _ n ih =>
    rw [Lib.decDigits]
    split
    · rename_i h
      simp only [List.all_cons, List.all_nil, Bool.and_true, digB, digit_val n h]
      exact decide_eq_true (by omega)
    · rename_i h
      have hm := Nat.mod_lt n (show 0 < 10 by omega)
      rw [List.all_append, ih (n / 10) (by omega)]
      simp only [List.all_cons, List.all_nil, Bool.and_true, Bool.true_and, digB, digit_val _ hm]
      exact decide_eq_true (by omega)
theorem dec_head : ∀ n : Nat, 1 ≤ n → (Lib.decDigits n).head? ≠ some 48 := by
  intro n
  induction n using Nat.strongRecOn with
  | _ n ih =>
    intro h1
    rw [Lib.decDigits]
    split
    · rename_i h
      intro e
      simp only [List.head?_cons, Option.some.injEq] at e
      have := congrArg UInt8.toNat e
      rw [digit_val n h] at this
      simp at this
      omega
    · rename_i h
      have hne : Lib.decDigits (n / 10) ≠ [] := by rw [Lib.decDigits]; split <;> simp
      have := ih (n / 10) (by omega) (by omega)
      cases hd : Lib.decDigits (n / 10) with
      | nil => exact absurd hd hne
      | cons c l => rw [hd] at this; simpa using this
theorem dec_ne (n : Nat) : Lib.decDigits n ≠ [] := by rw [Lib.decDigits]; split <;> simp
theorem dec_len (n : Nat) (h : n ≤ 999999999) : (Lib.decDigits n).length ≤ 9 := by
  rw [Lib.decDigits_length]
  exact nDigits_le 8 n (by omega)
theorem dec_ok (n : Nat) (h : n ≤ 999999999) : numOk (decS n).data.toList = true := by
  rw [show (decS n).data.toList = Lib.decDigits n from rfl, numOk_eq]
  refine ⟨dec_ne n, dec_len n h, ?_, dec_dig n⟩
  rintro ⟨h1, h2⟩
  by_cases h0 : n < 10
  · rw [Lib.decDigits, dif_pos h0] at h1
    simp at h1
  · exact dec_head n (by omega) h2
theorem dec_num (n : Nat) (h : n ≤ 999999999) : numI (decS n).data.toList = n := by
  rw [numI_yes (dec_ok n h), show (decS n).data.toList = Lib.decDigits n from rfl, dec_val]
/-- Digits, and what may stand ahead of them, are a right value. -/
theorem val_plain {l : List UInt8} (h : l.all (fun c => decide (33 ≤ c.toNat)) = true) : valS l = true := by
  unfold valS
  rw [Bool.and_eq_true]
  have hc : ∀ c ∈ l, 33 ≤ c.toNat := fun c hc => by simpa using List.all_eq_true.1 h c hc
  constructor
  · rw [List.all_eq_true]
    intro c hm
    have := hc c hm
    unfold ctlN
    simp
    omega
  · cases l with
    | nil => rfl
    | cons a t =>
      have h1 := hc a (by simp)
      have h2 : 33 ≤ ((a :: t).getLastD 0).toNat := by
        have hg : (a :: t).getLastD 0 = (a :: t).getLast (by simp) := by simp [List.getLastD]
        rw [hg]
        exact hc _ (List.getLast_mem _)
      have h1' : 33 ≤ ((a :: t).headD 0).toNat := h1
      unfold blkN
      simp only [List.isEmpty_cons, Bool.false_or, Bool.and_eq_true, Bool.not_eq_true', Bool.or_eq_false_iff, decide_eq_false_iff_not]
      omega
theorem dec_val33 (n : Nat) : (decS n).data.toList.all (fun c => decide (33 ≤ c.toNat)) = true := by
  have := dec_dig n
  have e : (decS n).data.toList = Lib.decDigits n := by simp [decS]
  rw [e]
  rw [List.all_eq_true] at this ⊢
  intro c hc
  have := this c hc
  unfold digB at this
  simp at this ⊢
  omega
theorem app_list (a b : ByteArray) : (a ++ b).data.toList = a.data.toList ++ b.data.toList := by simp
theorem lenGo_is : ∀ (V : List ByteArray) (i : Nat) (n0 : Int), (lenGo V i n0).2 = true → (lenGo V i n0).1 = n0 ∨ ∃ x ∈ V, numOk x.data.toList = true ∧ (lenGo V i n0).1 = numI x.data.toList
  | [], i, n0, _ => .inl rfl
  | x :: t, i, n0, h => by
    rw [lenGo] at h ⊢
    by_cases hc : (numOk x.data.toList && (decide (i = 0) || decide (numI x.data.toList = n0))) = true
    · rw [if_pos hc] at h ⊢
      have hok : numOk x.data.toList = true := by rw [Bool.and_eq_true] at hc; exact hc.1
      rcases lenGo_is t (i + 1) (numI x.data.toList) h with h1 | ⟨y, hy, h1, h2⟩
      · exact .inr ⟨x, by simp, hok, h1⟩
      · exact .inr ⟨y, List.mem_cons_of_mem _ hy, h1, h2⟩
    · rw [if_neg hc] at h
      cases h
theorem numI_nat {l : List UInt8} (h : numOk l = true) : ∃ n : Nat, numI l = n ∧ n ≤ 999999999 := by
  refine ⟨numVal l, numI_yes h, ?_⟩
  obtain ⟨_, h1, _, h2⟩ := (numOk_eq l).1 h
  have := numVal_lt9 l h2 h1
  omega
theorem rankD_in (d : List UInt8) : 0 ≤ rankD d ∧ rankD d ≤ 7 := by
  unfold rankD
  split
  · split <;> omega
  · omega
theorem rankS_in (l : List UInt8) : 0 ≤ rankS l ∧ rankS l ≤ 7 := by
  unfold rankS
  split
  · exact rankD_in _
  · omega
theorem rankV_in (V : List ByteArray) : 0 ≤ rankV V ∧ rankV V ≤ 7 := by
  cases V with
  | nil => exact ⟨by decide, by decide⟩
  | cons x t => exact rankS_in _
theorem rank_back {r : Int} (h0 : 0 ≤ r) (h7 : r ≤ 7) : rankS (aUeq ++ decS r.toNat).data.toList = r := by
  obtain ⟨k, rfl⟩ : ∃ k : Nat, r = k := ⟨r.toNat, by omega⟩
  have hk : k ≤ 7 := by omega
  rw [app_list, Int.toNat_natCast, decS_one (by omega)]
  have hc : (UInt8.ofNat (48 + k)).toNat = 48 + k := by
    rw [UInt8.toNat_ofNat']
    omega
  show rankS (117 :: 61 :: UInt8.ofNat (48 + k) :: []) = _
  rw [rankS_cons, if_neg, hc]
  · omega
  · rw [hc]
    rintro (h | h | h | h | ⟨h, _⟩)
    · exact h rfl
    · exact h rfl
    · omega
    · omega
    · exact h rfl
/-- The two parts of a request's fields. -/
def fH (m s p h : ByteArray) : List Fld := [⟨aMethod, m, false⟩, ⟨aScheme, s, false⟩, ⟨aPath, p, false⟩] ++ (if h.size = 0 then [] else [⟨aAuth, h, false⟩])
def fT (len rank : Int) : List Fld := (if 0 ≤ len then [⟨aLen, decS len.toNat, false⟩] else []) ++ (if rank = 3 then [] else [⟨aPrio, aUeq ++ decS rank.toNat, false⟩])
theorem fields_two (m s p h : ByteArray) (len rank : Int) : fieldsQ m s p h len rank = fH m s p h ++ fT len rank := by unfold fieldsQ fH fT; rw [List.append_assoc]
theorem fH_colon (m s p h : ByteArray) : (fH m s p h).all colonB = true := by
  unfold fH
  split <;> rfl
theorem fT_head (len rank : Int) : ∀ f, (fT len rank).head? = some f → colonB f = false := by
  intro f hf
  unfold fT at hf
  split at hf <;> split at hf
  all_goals
    first
    | (simp at hf; done)
    | (have hf2 := by simpa using hf.symm
       rw [hf2]
       rfl)
theorem fT_app_head (len rank : Int) (X : List Fld) (hX : ∀ f, X.head? = some f → colonB f = false) : ∀ f, (fT len rank ++ X).head? = some f → colonB f = false := by
  intro f hf
  cases hT : fT len rank with
  | nil => rw [hT] at hf; exact hX f hf
  | cons a t =>
    rw [hT] at hf
    exact fT_head len rank f (by rw [hT]; exact hf)
theorem fH_vals (m s p h : ByteArray) : valuesL (fH m s p h) nMethod = [m] ∧ valuesL (fH m s p h) nScheme = [s] ∧ valuesL (fH m s p h) nPath = [p] ∧ valuesL (fH m s p h) nAuth = (if h.size = 0 then [] else [h]) := by
  unfold fH
  split <;> exact ⟨rfl, rfl, rfl, rfl⟩
theorem fT_vals (len rank : Int) : valuesL (fT len rank) nHost = [] ∧ valuesL (fT len rank) nLen = (if 0 ≤ len then [decS len.toNat] else []) ∧ valuesL (fT len rank) nPrio = (if rank = 3 then [] else [aUeq ++ decS rank.toNat]) := by
  unfold fT
  split <;> split <;> exact ⟨rfl, rfl, rfl⟩
theorem plain_len (n : Nat) : plainB ⟨aLen, decS n, false⟩ true = true := by
  have h : plainB ⟨aLen, decS n, false⟩ true = (nameS false aLen.data.toList && (valS (decS n).data.toList && !barB aLen.data.toList)) := rfl
  rw [h, val_plain (dec_val33 n)]
  decide
theorem plain_prio (n : Nat) : plainB ⟨aPrio, aUeq ++ decS n, false⟩ true = true := by
  have h : plainB ⟨aPrio, aUeq ++ decS n, false⟩ true = (nameS false aPrio.data.toList && (valS (aUeq ++ decS n).data.toList && !barB aPrio.data.toList)) := rfl
  have hv : valS (aUeq ++ decS n).data.toList = true := val_plain (by rw [app_list, List.all_append, dec_val33]; rfl)
  rw [h, hv]
  decide
theorem fT_plain (len rank : Int) : (fT len rank).all (plainB · true) = true := by
  unfold fT
  rw [List.all_append]
  split <;> split <;> simp [plain_len, plain_prio]
theorem hostV_nil {h : ByteArray} (hz : h.size = 0) : h = ⟨#[]⟩ := by
  have : h.data.toList = [] := List.length_eq_zero_iff.1 (by rw [← sz]; exact hz)
  cases h
  simp at this
  simp [this]
/-- What is known of what was read. -/
structure QGood (en : Bool) (m s p h : ByteArray) (len rank : Int) : Prop where
  vm : valS m.data.toList = true
  vs : valS s.data.toList = true
  vp : valS p.data.toList = true
  vh : h.size ≠ 0 → valS h.data.toList = true
  hl : len = -1 ∨ ∃ n : Nat, len = n ∧ n ≤ 999999999
  hr : 0 ≤ rank ∧ rank ≤ 7
  cm : nameS true m.data.toList = true
  cs : s.data.toList = tHttp ∨ s.data.toList = tHttps
  cp : Lib.hasPrefix p.data.toList [47] = true ∨ (p.data.toList = [42] ∧ m.data.toList = tOpt)
  ce : en = false ∨ len ≤ 0
theorem good_q {L : List Fld} {en : Bool} {m s p : ByteArray} (G : Good L en m s p) : QGood en m s p (goodR L m s p).h (goodR L m s p).len (goodR L m s p).rank := by
  have hval : ∀ l x, x ∈ valuesL (L.take (frontN L)) l → valS x.data.toList = true := fun l x hx => by
    obtain ⟨f, hf, _, rfl⟩ := val_of hx
    exact (G.hv f hf).2
  refine ⟨hval _ _ (by rw [G.hm]; simp), hval _ _ (by rw [G.hs]; simp), hval _ _ (by rw [G.hp]; simp), fun hne => ?_, ?_, rankV_in _, G.cm, G.cs, G.cp, G.ce⟩
  · change (hostV (valuesL (L.take (frontN L)) nAuth ++ valuesL (L.drop (frontN L)) nHost)).size ≠ 0 at hne
    show valS (hostV (valuesL (L.take (frontN L)) nAuth ++ valuesL (L.drop (frontN L)) nHost)).data.toList = true
    cases hV : valuesL (L.take (frontN L)) nAuth with
    | cons x t => exact hval nAuth x (by rw [hV]; simp)
    | nil =>
      rw [hV] at hne
      cases hX : valuesL (L.drop (frontN L)) nHost with
      | nil => rw [hX] at hne; exact absurd rfl hne
      | cons x t =>
        obtain ⟨f, hf, hn, hfx⟩ := val_of (show x ∈ valuesL (L.drop (frontN L)) nHost by rw [hX]; simp)
        have hp : plainB f true = true := List.all_eq_true.1 G.ht f hf
        unfold plainB at hp
        rw [if_neg (by rw [hn]; decide)] at hp
        simp only [Bool.and_eq_true] at hp
        show valS x.data.toList = true
        rw [← hfx]
        exact hp.2.1
  · show (lenGo (valuesL (L.drop (frontN L)) nLen) 0 (-1)).1 = -1 ∨ _
    rcases lenGo_is _ _ _ G.hl with h | ⟨x, _, h1, h2⟩
    · exact .inl h
    · obtain ⟨n, h3, h4⟩ := numI_nat h1
      exact .inr ⟨n, h2.trans h3, h4⟩
theorem fields_good {en : Bool} {m s p h : ByteArray} {len rank : Int} (Q : QGood en m s p h len rank) (X : List Fld) (hX : X.all (plainB · true) = true) (x1 : valuesL X nLen = []) (x2 : valuesL X nPrio = []) (x3 : valuesL X nHost = []) :
    Good (fieldsQ m s p h len rank ++ X) en m s p ∧ reqV (some (goodR (fieldsQ m s p h len rank ++ X) m s p)) = .agg #[.string m, .string s, .string p, .string h, .int .i64 len, .int .i64 rank] := by
  obtain ⟨v1, v2, v3, v4⟩ := fH_vals m s p h
  obtain ⟨t1, t2, t3⟩ := fT_vals len rank
  have app : ∀ A B l, valuesL (A ++ B) l = valuesL A l ++ valuesL B l := fun A B l => by unfold valuesL; rw [List.filter_append, List.map_append]
  have hXc : ∀ f, X.head? = some f → colonB f = false := fun f hf => plain_colon (List.all_eq_true.1 hX f (List.mem_of_head? hf))
  have hT := fT_app_head len rank X hXc
  rw [fields_two, List.append_assoc]
  have hlen : lenGo (valuesL (fT len rank ++ X) nLen) 0 (-1) = (len, true) := by
    rw [app, t2, x1, List.append_nil]
    rcases Q.hl with h | ⟨n, h, hn⟩
    · subst h; rfl
    · subst h
      rw [if_pos (by omega), Int.toNat_natCast, lenGo, dec_ok n hn, dec_num n hn]
      rfl
  have hprio : rankV (valuesL (fT len rank ++ X) nPrio) = rank := by
    rw [app, t3, x2, List.append_nil]
    by_cases hr : rank = 3
    · rw [if_pos hr, hr]; rfl
    · rw [if_neg hr]; exact rank_back Q.hr.1 Q.hr.2
  have hhost : hostV (valuesL (fH m s p h) nAuth ++ valuesL (fT len rank ++ X) nHost) = h := by
    rw [app, v4, t1, x3]
    by_cases hz : h.size = 0
    · rw [if_pos hz, hostV_nil hz]; rfl
    · rw [if_neg hz]; rfl
  have G2 : Good2 (fH m s p h) (fT len rank ++ X) en m s p := by
    refine ⟨v1, v2, v3, ?_, ?_, ?_, by rw [hlen], Q.cm, Q.cs, Q.cp, by rw [hlen]; exact Q.ce⟩
    · rw [v4]; split <;> simp
    · intro f hf
      unfold fH at hf
      rcases List.mem_append.1 hf with h1 | h1
      · simp at h1
        rcases h1 with rfl | rfl | rfl
        · exact ⟨show psName nMethod = true from by decide, Q.vm⟩
        · exact ⟨show psName nScheme = true from by decide, Q.vs⟩
        · exact ⟨show psName nPath = true from by decide, Q.vp⟩
      · by_cases hz : h.size = 0
        · rw [if_pos hz] at h1; cases h1
        · rw [if_neg hz] at h1
          obtain rfl : f = ⟨aAuth, h, false⟩ := by simpa using h1
          exact ⟨show psName nAuth = true from by decide, Q.vh hz⟩
    · rw [List.all_append, fT_plain, hX]; rfl
  refine ⟨(two_good (fH_colon m s p h) hT).2 G2, ?_⟩
  rw [two_goodR (fH_colon m s p h) hT]
  show Value.agg #[.string m, .string s, .string p, .string (hostV (valuesL (fH m s p h) nAuth ++ valuesL (fT len rank ++ X) nHost)), .int .i64 (lenGo (valuesL (fT len rank ++ X) nLen) 0 (-1)).1, .int .i64 (rankV (valuesL (fT len rank ++ X) nPrio))] = _
  rw [hhost, hlen, hprio]
theorem fields_none {en : Bool} {m s p h : ByteArray} {len rank : Int} (X : List Fld) (hX : ∃ a t, X = a :: t ∧ colonB a = false) (hb : X.all (plainB · true) = false) : readS (fieldsQ m s p h len rank ++ X) en = none := by
  cases hr : readS (fieldsQ m s p h len rank ++ X) en with
  | none => rfl
  | some r =>
    exfalso
    obtain ⟨m', s', p', G⟩ := readS_is (L := fieldsQ m s p h len rank ++ X) (en := en) (by rw [hr]; rfl)
    obtain ⟨a, t, rfl, ha⟩ := hX
    rw [fields_two, List.append_assoc] at G
    have hT := fT_app_head len rank (a :: t) (fun f hf => by obtain rfl : a = f := by simpa using hf
                                                             exact ha)
    have G2 := (two_good (fH_colon m s p h) hT).1 G
    have := G2.ht
    rw [List.all_append, Bool.and_eq_true] at this
    rw [hb] at this
    cases this.2
end Go.Proofs.YtecmccihldjicaaDoor
