/- Reading in plain words: the program's and the document's are one. -/
import Derived.Test.YtecmccihldjicaaDoorReqQ
namespace Go.Proofs.YtecmccihldjicaaDoor
open Go.RowKit
set_option linter.unusedVariables false
set_option linter.unusedSimpArgs false

theorem cntN_cons (f : Fld) (L : List Fld) (l : List UInt8) : cntN (f :: L) l = (if f.name.data.toList = l then 1 else 0) + cntN L l := by
  unfold cntN
  rw [List.filter_cons]
  by_cases h : f.name.data.toList = l
  · rw [if_pos (by simpa using h), if_pos h, List.length_cons]; omega
  · rw [if_neg (by simpa using h), if_neg h]; omega
theorem cntN_app (A B : List Fld) (l : List UInt8) : cntN (A ++ B) l = cntN A l + cntN B l := by
  unfold cntN
  rw [List.filter_append, List.length_append]
theorem valuesL_cons (f : Fld) (L : List Fld) (l : List UInt8) : valuesL (f :: L) l = (if f.name.data.toList = l then [f.value] else []) ++ valuesL L l := by
  unfold valuesL
  rw [List.filter_cons]
  by_cases h : f.name.data.toList = l
  · rw [if_pos (by simpa using h), if_pos h]; rfl
  · rw [if_neg (by simpa using h), if_neg h]; rfl
theorem colonB_name {f : Fld} {l : List UInt8} (h : f.name.data.toList = l) : colonB f = Lib.hasPrefix l [58] := by unfold colonB; rw [h]
theorem cnt_colon {H : List Fld} (hH : H.all colonB = true) {l : List UInt8} (hl : Lib.hasPrefix l [58] = false) : cntN H l = 0 := by
  unfold cntN
  rw [List.length_eq_zero_iff, List.filter_eq_nil_iff]
  intro f hf he
  have h1 := colonB_name (f := f) (l := l) (by simpa using he)
  rw [List.all_eq_true.1 hH f hf, hl] at h1
  cases h1
theorem cnt_plain {T : List Fld} (hT : T.all (fun f => !colonB f) = true) {l : List UInt8} (hl : Lib.hasPrefix l [58] = true) : cntN T l = 0 := by
  unfold cntN
  rw [List.length_eq_zero_iff, List.filter_eq_nil_iff]
  intro f hf he
  have h1 := colonB_name (f := f) (l := l) (by simpa using he)
  have h2 := List.all_eq_true.1 hT f hf
  rw [h1, hl] at h2
  cases h2
theorem plain_colon {f : Fld} (h : plainB f true = true) : colonB f = false := by
  cases hc : colonB f with
  | false => rfl
  | true =>
    exfalso
    unfold plainB at h
    unfold colonB at hc
    rw [colon_list] at hc
    cases hl : f.name.data.toList with
    | nil => rw [hl] at hc; cases hc
    | cons a t =>
      rw [hl] at hc h
      have ha : a = 58 := by simpa using hc
      subst ha
      rw [if_neg (by simp)] at h
      have hn : nameS false (58 :: t) = false := by
        unfold nameS
        have : okB false 58 = false := by decide
        simp [this]
      rw [hn] at h
      cases h
theorem plain_rest (f : Fld) : plainB f true = (teB f || plainB f false) := by
  unfold plainB teB
  rw [tl, tl]
  by_cases h : f.name.data.toList = [116, 101]
  · rw [if_pos h, if_pos h, h]; simp
  · rw [if_neg h, if_neg h, beq_eq_false_iff_ne.2 h]; simp
theorem trail_rest (T : List Fld) : trailB (restL T) = T.all (plainB · true) := by
  unfold trailB restL
  induction T with
  | nil => rfl
  | cons f t ih =>
    rw [List.filter_cons, List.all_cons, plain_rest]
    cases ht : teB f with
    | true => simp [ih]
    | false => simp [ih]
def pick1 {α : Type} (c : Nat) (d : α) (l : List α) : α := if c = 0 then l.headD d else d
theorem pick1_cons {α : Type} (c : Nat) (d x : α) (l : List α) : pick1 c d (x :: l) = pick1 (c + 1) (if c = 0 then x else d) l := by
  unfold pick1
  by_cases h : c = 0
  · rw [if_pos h, if_pos h, if_neg (by omega)]; rfl
  · rw [if_neg h, if_neg h, if_neg (by omega)]
theorem names_ne : nHost ≠ nPrio ∧ nHost ≠ nLen ∧ nPrio ≠ nLen ∧ Lib.hasPrefix nHost [58] = false ∧ Lib.hasPrefix nPrio [58] = false ∧ Lib.hasPrefix nLen [58] = false ∧ Lib.hasPrefix nMethod [58] = true ∧ Lib.hasPrefix nScheme [58] = true ∧ Lib.hasPrefix nPath [58] = true ∧ Lib.hasPrefix nAuth [58] = true := by decide
def tailR (r : Rd) (A T : List Fld) : Rd := ⟨r.m, r.s, r.p, r.h, (lenGo (valuesL T nLen) (cntN A nLen) r.len).1, pick1 (cntN A nPrio) r.rank ((valuesL T nPrio).map fun x => rankS x.data.toList), pick1 (cntN A nHost) r.host (valuesL T nHost)⟩
theorem tail_run {H : List Fld} (hH : H.all colonB = true) : ∀ (T A : List Fld) (r : Rd),
    readGo T r (H ++ A) false = if T.all (plainB · true) && (lenGo (valuesL T nLen) (cntN A nLen) r.len).2 then some (tailR r A T, H ++ A ++ T) else none
  | [], A, r => by
    unfold readGo tailR pick1
    simp [valuesL, lenGo]
  | f :: t, A, r => by
    obtain ⟨n1, n2, n3, c1, c2, c3, _⟩ := names_ne
    have hcn : ∀ l, Lib.hasPrefix l [58] = false → cntN (H ++ A) l = cntN A l := fun l hl => by rw [cntN_app, cnt_colon hH hl]; omega
    unfold readGo
    rw [List.all_cons]
    cases hc : colonB f with
    | true =>
      have hp : plainB f true = false := by
        cases hp : plainB f true with
        | false => rfl
        | true => rw [plain_colon hp] at hc; cases hc
      rw [if_pos rfl, hp]
      simp
    | false =>
      rw [if_neg (by decide)]
      unfold plOk
      cases hp : plainB f true with
      | false => simp
      | true =>
        simp only [Bool.true_and]
        have hap : H ++ A ++ [f] = H ++ (A ++ [f]) := List.append_assoc _ _ _
        have ih := fun r' => tail_run hH t (A ++ [f]) r'
        rw [hap]
        have hfin : H ++ (A ++ [f]) ++ t = H ++ A ++ (f :: t) := by simp
        by_cases h3 : f.name.data.toList = nLen
        · rw [if_pos h3, h3, hcn nLen c3]
          have hv : valuesL (f :: t) nLen = f.value :: valuesL t nLen := by rw [valuesL_cons, if_pos h3]; rfl
          have hv1 : valuesL (f :: t) nPrio = valuesL t nPrio := by rw [valuesL_cons, if_neg (by rw [h3]; exact n3.symm)]; rfl
          have hv2 : valuesL (f :: t) nHost = valuesL t nHost := by rw [valuesL_cons, if_neg (by rw [h3]; exact n2.symm)]; rfl
          have hc0 : cntN (A ++ [f]) nLen = cntN A nLen + 1 := by rw [cntN_snoc, if_pos h3]
          have hc4 : cntN (A ++ [f]) nPrio = cntN A nPrio := by rw [cntN_snoc, if_neg (by rw [h3]; exact n3.symm)]; rfl
          have hc5 : cntN (A ++ [f]) nHost = cntN A nHost := by rw [cntN_snoc, if_neg (by rw [h3]; exact n2.symm)]; rfl
          have hs : plSet r (H ++ A) f = { r with len := numI f.value.data.toList } := by
            unfold plSet; rw [if_neg (by rw [h3]; exact n2.symm), if_neg (by rw [h3]; exact n3.symm), if_pos h3]
          rw [hs, hv]
          have hg : lenGo (f.value :: valuesL t nLen) (cntN A nLen) r.len = if numOk f.value.data.toList && (decide (cntN A nLen = 0) || decide (numI f.value.data.toList = r.len)) then lenGo (valuesL t nLen) (cntN A nLen + 1) (numI f.value.data.toList) else (0, false) := by rw [lenGo]
          rw [hg]
          by_cases hk : (numOk f.value.data.toList && (decide (cntN A nLen = 0) || decide (numI f.value.data.toList = r.len))) = true
          · rw [if_pos hk, if_pos hk, ih, hc0, hfin]
            unfold tailR
            rw [hc0, hc4, hc5, hv, hv1, hv2, hg, if_pos hk]
          · rw [if_neg hk, if_neg hk]
            simp
        · rw [if_neg h3, if_pos rfl, ih, hfin]
          have hv : valuesL (f :: t) nLen = valuesL t nLen := by rw [valuesL_cons, if_neg h3]; rfl
          have hc0 : cntN (A ++ [f]) nLen = cntN A nLen := by rw [cntN_snoc, if_neg h3]; rfl
          by_cases h1 : f.name.data.toList = nHost
          · have hs : plSet r (H ++ A) f = if cntN A nHost = 0 then { r with host := f.value } else r := by
              unfold plSet; rw [if_pos h1, h1, hcn nHost c1]
            have hv1 : valuesL (f :: t) nPrio = valuesL t nPrio := by rw [valuesL_cons, if_neg (by rw [h1]; exact n1)]; rfl
            have hv2 : valuesL (f :: t) nHost = f.value :: valuesL t nHost := by rw [valuesL_cons, if_pos h1]; rfl
            have hc4 : cntN (A ++ [f]) nPrio = cntN A nPrio := by rw [cntN_snoc, if_neg (by rw [h1]; exact n1)]; rfl
            have hc5 : cntN (A ++ [f]) nHost = cntN A nHost + 1 := by rw [cntN_snoc, if_pos h1]
            have hl : (plSet r (H ++ A) f).len = r.len := by rw [hs]; split <;> rfl
            rw [hl, hv, hc0]
            have ht : tailR (plSet r (H ++ A) f) (A ++ [f]) t = tailR r A (f :: t) := by
              unfold tailR
              rw [hl, hv, hv1, hv2, hc0, hc4, hc5, pick1_cons, hs]
              by_cases h0 : cntN A nHost = 0
              · simp only [h0, if_true]
              · simp only [h0, if_false]
            rw [ht]
          · by_cases h2 : f.name.data.toList = nPrio
            · have hs : plSet r (H ++ A) f = if cntN A nPrio = 0 then { r with rank := rankS f.value.data.toList } else r := by
                unfold plSet; rw [if_neg h1, if_pos h2, h2, hcn nPrio c2]
              have hv1 : valuesL (f :: t) nPrio = f.value :: valuesL t nPrio := by rw [valuesL_cons, if_pos h2]; rfl
              have hv2 : valuesL (f :: t) nHost = valuesL t nHost := by rw [valuesL_cons, if_neg h1]; rfl
              have hc4 : cntN (A ++ [f]) nPrio = cntN A nPrio + 1 := by rw [cntN_snoc, if_pos h2]
              have hc5 : cntN (A ++ [f]) nHost = cntN A nHost := by rw [cntN_snoc, if_neg h1]; rfl
              have hl : (plSet r (H ++ A) f).len = r.len := by rw [hs]; split <;> rfl
              rw [hl, hv, hc0]
              have ht : tailR (plSet r (H ++ A) f) (A ++ [f]) t = tailR r A (f :: t) := by
                unfold tailR
                rw [hl, hv, hv1, hv2, hc0, hc4, hc5, List.map_cons, pick1_cons, hs]
                by_cases h0 : cntN A nPrio = 0
                · simp only [h0, if_true]
                · simp only [h0, if_false]
              rw [ht]
            · have hs : plSet r (H ++ A) f = r := by unfold plSet; rw [if_neg h1, if_neg h2, if_neg h3]
              have hv1 : valuesL (f :: t) nPrio = valuesL t nPrio := by rw [valuesL_cons, if_neg h2]; rfl
              have hv2 : valuesL (f :: t) nHost = valuesL t nHost := by rw [valuesL_cons, if_neg h1]; rfl
              have hc4 : cntN (A ++ [f]) nPrio = cntN A nPrio := by rw [cntN_snoc, if_neg h2]; rfl
              have hc5 : cntN (A ++ [f]) nHost = cntN A nHost := by rw [cntN_snoc, if_neg h1]; rfl
              rw [hs, hv, hc0]
              have ht : tailR r (A ++ [f]) t = tailR r A (f :: t) := by
                unfold tailR
                rw [hv, hv1, hv2, hc0, hc4, hc5]
              rw [ht]
/-- Are pseudo fields right, one behind the other? -/
def headOk : List Fld → List Fld → Bool
  | _, [] => true
  | P, f :: t => psOk P f && headOk (P ++ [f]) t
theorem head_run : ∀ (H T P : List Fld) (r : Rd), H.all colonB = true →
    readGo (H ++ T) r P true = if headOk P H then readGo T (H.foldl psSet r) (P ++ H) true else none
  | [], T, P, r, _ => by simp [headOk]
  | f :: t, T, P, r, h => by
    rw [List.all_cons, Bool.and_eq_true] at h
    rw [List.cons_append, readGo, if_pos h.1, headOk, List.foldl_cons]
    cases hp : psOk P f with
    | false => simp
    | true =>
      rw [if_pos (by simp), head_run t T (P ++ [f]) (psSet r f) h.2]
      simp
theorem go_free {T : List Fld} (hT : ∀ f, T.head? = some f → colonB f = false) (r : Rd) (P : List Fld) : readGo T r P true = readGo T r P false := by
  cases T with
  | nil => rfl
  | cons f t =>
    have := hT f rfl
    rw [readGo, readGo, this]
    simp
theorem front_split (L : List Fld) : (L.take (frontN L)).all colonB = true ∧ ∀ f, (L.drop (frontN L)).head? = some f → colonB f = false := by
  induction L with
  | nil => exact ⟨rfl, fun f h => by cases h⟩
  | cons a l ih =>
    unfold frontN at ih ⊢
    rw [List.takeWhile_cons]
    by_cases h : colonB a = true
    · rw [if_pos h, List.length_cons, List.take_succ_cons, List.all_cons, h, List.drop_succ_cons]
      exact ⟨by simpa using ih.1, ih.2⟩
    · rw [if_neg h]
      refine ⟨rfl, fun f hf => ?_⟩
      obtain rfl : a = f := by simpa using hf
      simpa using h
/-- What the program reads, part by part. -/
theorem readGo_parts (L : List Fld) : readGo L rd0 [] true =
    if headOk [] (L.take (frontN L)) && ((L.drop (frontN L)).all (plainB · true) && (lenGo (valuesL (L.drop (frontN L)) nLen) 0 (-1)).2) then some (tailR ((L.take (frontN L)).foldl psSet rd0) [] (L.drop (frontN L)), L) else none := by
  obtain ⟨h1, h2⟩ := front_split L
  have h0 : L = L.take (frontN L) ++ L.drop (frontN L) := (List.take_append_drop _ _).symm
  have e1 : readGo L rd0 [] true = readGo (L.take (frontN L) ++ L.drop (frontN L)) rd0 [] true := by rw [← h0]
  rw [e1, head_run _ _ _ _ h1, List.nil_append, go_free h2]
  have hlen : ((L.take (frontN L)).foldl psSet rd0).len = -1 := by
    have : ∀ (H : List Fld) (r : Rd), (H.foldl psSet r).len = r.len := by
      intro H
      induction H with
      | nil => intro r; rfl
      | cons f t ih =>
        intro r
        rw [List.foldl_cons, ih]
        unfold psSet
        repeat' split
        all_goals rfl
    rw [this]; rfl
  have ht := tail_run h1 (L.drop (frontN L)) [] ((L.take (frontN L)).foldl psSet rd0)
  rw [List.append_nil, List.take_append_drop, hlen] at ht
  rw [ht]
  have hz : cntN [] nLen = 0 := rfl
  rw [hz]
  cases headOk [] (L.take (frontN L)) <;> simp
theorem fold_last (π : Rd → ByteArray) (l : List UInt8) (hπ : ∀ r f, π (psSet r f) = if f.name.data.toList = l then f.value else π r) :
    ∀ (H : List Fld) (r : Rd), π (H.foldl psSet r) = ((valuesL H l).getLast?).getD (π r)
  | [], r => rfl
  | f :: t, r => by
    rw [List.foldl_cons, fold_last π l hπ t, valuesL_cons, hπ]
    by_cases h : f.name.data.toList = l
    · rw [if_pos h, if_pos h]
      cases hv : valuesL t l with
      | nil => rfl
      | cons x y =>
        have e : ([f.value] ++ x :: y).getLast? = (x :: y).getLast? := by simp
        rw [e]
        cases hq : (x :: y).getLast? with
        | none => simp at hq
        | some z => rfl
    · rw [if_neg h, if_neg h]; rfl
theorem ps_ne : nMethod ≠ nScheme ∧ nMethod ≠ nPath ∧ nMethod ≠ nAuth ∧ nScheme ≠ nPath ∧ nScheme ≠ nAuth ∧ nPath ≠ nAuth := by decide
theorem set_m (r : Rd) (f : Fld) : (psSet r f).m = if f.name.data.toList = nMethod then f.value else r.m := by
  unfold psSet
  by_cases h : f.name.data.toList = nMethod
  · simp only [h, if_true]
  · simp only [h, if_false]; repeat' split
    all_goals rfl
theorem set_s (r : Rd) (f : Fld) : (psSet r f).s = if f.name.data.toList = nScheme then f.value else r.s := by
  obtain ⟨e1, e2, e3, e4, e5, e6⟩ := ps_ne
  unfold psSet
  by_cases h : f.name.data.toList = nScheme
  · simp only [h, e1.symm, if_true, if_false]
  · simp only [h, if_false]; repeat' split
    all_goals rfl
theorem set_p (r : Rd) (f : Fld) : (psSet r f).p = if f.name.data.toList = nPath then f.value else r.p := by
  obtain ⟨e1, e2, e3, e4, e5, e6⟩ := ps_ne
  unfold psSet
  by_cases h : f.name.data.toList = nPath
  · simp only [h, e2.symm, e4.symm, if_true, if_false]
  · simp only [h, if_false]; repeat' split
    all_goals rfl
theorem set_h (r : Rd) (f : Fld) : (psSet r f).h = if f.name.data.toList = nAuth then f.value else r.h := by
  obtain ⟨e1, e2, e3, e4, e5, e6⟩ := ps_ne
  unfold psSet
  by_cases h : f.name.data.toList = nAuth
  · simp only [h, e3.symm, e5.symm, e6.symm, if_true, if_false]
  · simp only [h, if_false]; repeat' split
    all_goals rfl
theorem set_rest (H : List Fld) : ∀ r : Rd, (H.foldl psSet r).rank = r.rank ∧ (H.foldl psSet r).host = r.host := by
  induction H with
  | nil => intro r; exact ⟨rfl, rfl⟩
  | cons f t ih =>
    intro r
    rw [List.foldl_cons, (ih _).1, (ih _).2]
    unfold psSet
    repeat' split
    all_goals exact ⟨rfl, rfl⟩
theorem psName_iff (l : List UInt8) : psName l = true ↔ l = nMethod ∨ l = nScheme ∨ l = nPath ∨ l = nAuth := by
  unfold psName
  simp only [Bool.or_eq_true, decide_eq_true_eq]
  constructor
  · rintro (((h | h) | h) | h)
    · exact .inl h
    · exact .inr (.inl h)
    · exact .inr (.inr (.inl h))
    · exact .inr (.inr (.inr h))
  · rintro (h | h | h | h)
    · exact .inl (.inl (.inl h))
    · exact .inl (.inl (.inr h))
    · exact .inl (.inr h)
    · exact .inr h
theorem headOk_iff : ∀ (H P : List Fld), headOk P H = true ↔ (∀ f ∈ H, psName f.name.data.toList = true ∧ valS f.value.data.toList = true) ∧ ∀ l, cntN H l = 0 ∨ cntN P l + cntN H l ≤ 1
  | [], P => by
    simp only [headOk, true_iff]
    exact ⟨fun f hf => (by cases hf), fun l => .inl rfl⟩
  | f :: t, P => by
    rw [headOk, Bool.and_eq_true, headOk_iff t (P ++ [f])]
    unfold psOk
    simp only [Bool.and_eq_true, decide_eq_true_eq]
    constructor
    · rintro ⟨⟨h1, h2, h3⟩, h4, h5⟩
      refine ⟨fun g hg => ?_, fun l => ?_⟩
      · rcases List.mem_cons.1 hg with rfl | hg
        · exact ⟨h1, h3⟩
        · exact h4 g hg
      · have := h5 l
        rw [cntN_snoc] at this
        rw [cntN_cons]
        by_cases h : f.name.data.toList = l
        · subst h
          rw [if_pos rfl] at this ⊢
          omega
        · rw [if_neg h] at this ⊢
          omega
    · rintro ⟨h1, h2⟩
      have h3 := h1 f (by simp)
      have h4 := h2 f.name.data.toList
      rw [cntN_cons, if_pos rfl] at h4
      refine ⟨⟨h3.1, by omega, h3.2⟩, fun g hg => h1 g (List.mem_cons_of_mem _ hg), fun l => ?_⟩
      have := h2 l
      rw [cntN_cons] at this
      rw [cntN_snoc]
      by_cases h : f.name.data.toList = l
      · rw [if_pos h] at this ⊢
        omega
      · rw [if_neg h] at this ⊢
        omega
theorem cnt_sum : ∀ (H : List Fld), cntN H nMethod + cntN H nScheme + cntN H nPath + cntN H nAuth ≤ H.length ∧ (cntN H nMethod + cntN H nScheme + cntN H nPath + cntN H nAuth = H.length → ∀ f ∈ H, psName f.name.data.toList = true) ∧ ((∀ f ∈ H, psName f.name.data.toList = true) → cntN H nMethod + cntN H nScheme + cntN H nPath + cntN H nAuth = H.length)
  | [] => ⟨Nat.le_refl _, (fun _ f hf => by cases hf), fun _ => rfl⟩
  | f :: t => by
    obtain ⟨i1, i2, i3⟩ := cnt_sum t
    obtain ⟨e1, e2, e3, e4, e5, e6⟩ := ps_ne
    rw [cntN_cons, cntN_cons, cntN_cons, cntN_cons, List.length_cons]
    have hone : (if f.name.data.toList = nMethod then 1 else 0) + (if f.name.data.toList = nScheme then 1 else 0) + (if f.name.data.toList = nPath then 1 else 0) + (if f.name.data.toList = nAuth then 1 else 0) = if psName f.name.data.toList = true then 1 else 0 := by
      by_cases hp : psName f.name.data.toList = true
      · rw [if_pos hp]
        rcases (psName_iff _).1 hp with h | h | h | h
        · rw [h, if_pos rfl, if_neg e1, if_neg e2, if_neg e3]
        · rw [h, if_neg e1.symm, if_pos rfl, if_neg e4, if_neg e5]
        · rw [h, if_neg e2.symm, if_neg e4.symm, if_pos rfl, if_neg e6]
        · rw [h, if_neg e3.symm, if_neg e5.symm, if_neg e6.symm, if_pos rfl]
      · rw [if_neg hp]
        have := mt (psName_iff f.name.data.toList).2 hp
        rw [if_neg (fun h => this (.inl h)), if_neg (fun h => this (.inr (.inl h))), if_neg (fun h => this (.inr (.inr (.inl h)))), if_neg (fun h => this (.inr (.inr (.inr h))))]
    by_cases hp : psName f.name.data.toList = true
    · rw [if_pos hp] at hone
      refine ⟨by omega, fun h g hg => ?_, fun h => ?_⟩
      · rcases List.mem_cons.1 hg with rfl | hg
        · exact hp
        · exact i2 (by omega) g hg
      · have := i3 (fun g hg => h g (List.mem_cons_of_mem _ hg))
        omega
    · rw [if_neg hp] at hone
      refine ⟨by omega, fun h => ?_, fun h => absurd (h f (by simp)) hp⟩
      omega
theorem val_in {H : List Fld} {l : List UInt8} {f : Fld} (hf : f ∈ H) (hn : f.name.data.toList = l) : f.value ∈ valuesL H l := by
  unfold valuesL
  exact List.mem_map.2 ⟨f, List.mem_filter.2 ⟨hf, by simp [hn]⟩, rfl⟩
theorem val_of {H : List Fld} {l : List UInt8} {x : ByteArray} (h : x ∈ valuesL H l) : ∃ f ∈ H, f.name.data.toList = l ∧ f.value = x := by
  unfold valuesL at h
  obtain ⟨f, hf, rfl⟩ := List.mem_map.1 h
  obtain ⟨h1, h2⟩ := List.mem_filter.1 hf
  exact ⟨f, h1, by simpa using h2, rfl⟩
/-- All is right, and there are these parts. -/
structure Good (L : List Fld) (en : Bool) (m s p : ByteArray) : Prop where
  hm : valuesL (L.take (frontN L)) nMethod = [m]
  hs : valuesL (L.take (frontN L)) nScheme = [s]
  hp : valuesL (L.take (frontN L)) nPath = [p]
  ha : (valuesL (L.take (frontN L)) nAuth).length ≤ 1
  hv : ∀ f ∈ L.take (frontN L), psName f.name.data.toList = true ∧ valS f.value.data.toList = true
  ht : (L.drop (frontN L)).all (plainB · true) = true
  hl : (lenGo (valuesL (L.drop (frontN L)) nLen) 0 (-1)).2 = true
  cm : nameS true m.data.toList = true
  cs : s.data.toList = tHttp ∨ s.data.toList = tHttps
  cp : Lib.hasPrefix p.data.toList [47] = true ∨ (p.data.toList = [42] ∧ m.data.toList = tOpt)
  ce : en = false ∨ (lenGo (valuesL (L.drop (frontN L)) nLen) 0 (-1)).1 ≤ 0
def goodR (L : List Fld) (m s p : ByteArray) : Rd := ⟨m, s, p, hostV (valuesL (L.take (frontN L)) nAuth ++ valuesL (L.drop (frontN L)) nHost), (lenGo (valuesL (L.drop (frontN L)) nLen) 0 (-1)).1, rankV (valuesL (L.drop (frontN L)) nPrio), (hostV (valuesL (L.drop (frontN L)) nHost))⟩
theorem one_iff {V : List ByteArray} : oneBo V = true ↔ ∃ x, V = [x] ∧ valS x.data.toList = true := by
  match V with
  | [] => exact ⟨fun h => (by cases h), fun ⟨x, h, _⟩ => (by cases h)⟩
  | [x] => exact ⟨fun h => ⟨x, rfl, h⟩, fun ⟨y, h, h2⟩ => (by cases h; exact h2)⟩
  | a :: b :: c => exact ⟨fun h => (by cases h), fun ⟨x, h, _⟩ => (by cases h)⟩
theorem front_take (L : List Fld) : (L.take (frontN L)).length = frontN L := by rw [List.length_take]; exact Nat.min_eq_left (frontN_le L)
theorem okR_good {L : List Fld} {en : Bool} (h : okR L en = true) : ∃ m s p, Good L en m s p := by
  unfold okR ok9 ok8 at h
  simp only [Bool.and_eq_true, Bool.or_eq_true, decide_eq_true_eq, beq_iff_eq, tl, Bool.not_eq_true'] at h
  obtain ⟨⟨⟨⟨⟨⟨⟨⟨⟨⟨⟨h1, h2⟩, h3⟩, h4⟩, h5⟩, h6⟩, h7⟩, h8⟩, h9⟩, h10⟩, h11⟩, h12⟩ := h
  obtain ⟨m, em, vm⟩ := one_iff.1 h1
  obtain ⟨s, es, vs⟩ := one_iff.1 h2
  obtain ⟨p, ep, vp⟩ := one_iff.1 h3
  have qm : (rpOf L).m = m := by show oneVo _ = m; rw [em]; rfl
  have qs : (rpOf L).s = s := by show oneVo _ = s; rw [es]; rfl
  have qp : (rpOf L).p = p := by show oneVo _ = p; rw [ep]; rfl
  rw [qm] at h5 h10
  rw [qs] at h6
  rw [qp] at h10
  have cm := congrArg List.length em
  have cs := congrArg List.length es
  have cp := congrArg List.length ep
  rw [valuesL_len] at cm cs cp
  have ca : cntN (L.take (frontN L)) nAuth = (rpOf L).hosts.length := (valuesL_len _ _).symm
  obtain ⟨_, i2, _⟩ := cnt_sum (L.take (frontN L))
  have hall := i2 (by rw [front_take, cm, cs, cp, ca, h8]; rfl)
  refine ⟨m, s, p, em, es, ep, h7, fun f hf => ⟨hall f hf, ?_⟩, by rw [← trail_rest]; exact h9, h4, h5, h6, h10, h11⟩
  rcases (psName_iff _).1 (hall f hf) with hn | hn | hn | hn
  · have := val_in hf hn; rw [em] at this; obtain rfl : f.value = m := by simpa using this
    exact vm
  · have := val_in hf hn; rw [es] at this; obtain rfl : f.value = s := by simpa using this
    exact vs
  · have := val_in hf hn; rw [ep] at this; obtain rfl : f.value = p := by simpa using this
    exact vp
  · exact List.all_eq_true.1 h12 f.value (val_in hf hn)
theorem good_okR {L : List Fld} {en : Bool} {m s p : ByteArray} (G : Good L en m s p) : okR L en = true ∧ rpOf L = ⟨m, s, p, valuesL (L.take (frontN L)) nAuth, (lenGo (valuesL (L.drop (frontN L)) nLen) 0 (-1)).1⟩ := by
  have qm : (rpOf L).m = m := by show oneVo _ = m; rw [G.hm]; rfl
  have qs : (rpOf L).s = s := by show oneVo _ = s; rw [G.hs]; rfl
  have qp : (rpOf L).p = p := by show oneVo _ = p; rw [G.hp]; rfl
  have hval : ∀ l x, x ∈ valuesL (L.take (frontN L)) l → valS x.data.toList = true := fun l x hx => by
    obtain ⟨f, hf, _, rfl⟩ := val_of hx
    exact (G.hv f hf).2
  have cm := congrArg List.length G.hm
  have cs := congrArg List.length G.hs
  have cp := congrArg List.length G.hp
  rw [valuesL_len] at cm cs cp
  obtain ⟨_, _, i3⟩ := cnt_sum (L.take (frontN L))
  have hsum := i3 (fun f hf => (G.hv f hf).1)
  rw [front_take, cm, cs, cp, ← valuesL_len] at hsum
  refine ⟨?_, ?_⟩
  · unfold okR ok9 ok8
    simp only [Bool.and_eq_true, Bool.or_eq_true, decide_eq_true_eq, beq_iff_eq, tl, Bool.not_eq_true', qm, qs, qp]
    refine ⟨⟨⟨⟨⟨⟨⟨⟨⟨⟨⟨one_iff.2 ⟨m, G.hm, hval _ _ (by rw [G.hm]; simp)⟩, one_iff.2 ⟨s, G.hs, hval _ _ (by rw [G.hs]; simp)⟩⟩, one_iff.2 ⟨p, G.hp, hval _ _ (by rw [G.hp]; simp)⟩⟩, G.hl⟩, G.cm⟩, G.cs⟩, G.ha⟩, ?_⟩, by rw [trail_rest]; exact G.ht⟩, G.cp⟩, G.ce⟩, List.all_eq_true.2 fun x hx => hval _ x hx⟩
    have e : (rpOf L).hosts = valuesL (L.take (frontN L)) nAuth := rfl
    rw [e]
    simp only [List.length_cons, List.length_nil] at hsum
    omega
  · have e : rpOf L = ⟨(rpOf L).m, (rpOf L).s, (rpOf L).p, valuesL (L.take (frontN L)) nAuth, (lenGo (valuesL (L.drop (frontN L)) nLen) 0 (-1)).1⟩ := rfl
    rw [e, qm, qs, qp]
theorem refR_good {L : List Fld} {en : Bool} {m s p : ByteArray} (G : Good L en m s p) : reqV (refR L en) = reqV (some (goodR L m s p)) ∧ (refR L en).isSome = true := by
  obtain ⟨h1, h2⟩ := good_okR G
  unfold refR
  rw [if_pos h1, h2]
  exact ⟨rfl, rfl⟩
theorem plain_all {T : List Fld} (h : T.all (plainB · true) = true) : T.all (fun f => !colonB f) = true :=
  List.all_eq_true.2 fun f hf => by rw [plain_colon (List.all_eq_true.1 h f hf)]; rfl
theorem cnt_head {L : List Fld} (ht : (L.drop (frontN L)).all (plainB · true) = true) {l : List UInt8} (hl : Lib.hasPrefix l [58] = true) : cntN L l = cntN (L.take (frontN L)) l := by
  have h0 : cntN L l = cntN (L.take (frontN L) ++ L.drop (frontN L)) l := by rw [List.take_append_drop]
  rw [h0, cntN_app, cnt_plain (plain_all ht) hl, Nat.add_zero]
theorem prod_one {a b c : Nat} (h : a * b * c = 1) : a = 1 ∧ b = 1 ∧ c = 1 := by
  have h1 := Nat.eq_one_of_mul_eq_one_left h
  have h2 := Nat.eq_one_of_mul_eq_one_right h
  exact ⟨Nat.eq_one_of_mul_eq_one_right h2, Nat.eq_one_of_mul_eq_one_left h2, h1⟩
theorem fold_one (π : Rd → ByteArray) (l : List UInt8) (hπ : ∀ r f, π (psSet r f) = if f.name.data.toList = l then f.value else π r) {x : ByteArray} {H : List Fld} (h : valuesL H l = [x]) (r : Rd) : π (H.foldl psSet r) = x := by
  rw [fold_last π l hπ, h]; rfl
/-- The reader behind all fields. -/
def endR (L : List Fld) : Rd := tailR ((L.take (frontN L)).foldl psSet rd0) [] (L.drop (frontN L))
theorem endR_parts {L : List Fld} {m s p : ByteArray} (hm : valuesL (L.take (frontN L)) nMethod = [m]) (hs : valuesL (L.take (frontN L)) nScheme = [s]) (hp : valuesL (L.take (frontN L)) nPath = [p]) :
    (endR L).m = m ∧ (endR L).s = s ∧ (endR L).p = p ∧ (endR L).len = (lenGo (valuesL (L.drop (frontN L)) nLen) 0 (-1)).1 := by
  have hl : ((L.take (frontN L)).foldl psSet rd0).len = -1 := by
    have : ∀ (H : List Fld) (r : Rd), (H.foldl psSet r).len = r.len := by
      intro H
      induction H with
      | nil => intro r; rfl
      | cons f t ih =>
        intro r
        rw [List.foldl_cons, ih]
        unfold psSet
        repeat' split
        all_goals rfl
    rw [this]; rfl
  refine ⟨fold_one (·.m) nMethod set_m hm rd0, fold_one (·.s) nScheme set_s hs rd0, fold_one (·.p) nPath set_p hp rd0, ?_⟩
  show (lenGo _ _ ((L.take (frontN L)).foldl psSet rd0).len).1 = _
  rw [hl]; rfl
theorem readS_good {L : List Fld} {en : Bool} {m s p : ByteArray} (G : Good L en m s p) : reqV (readS L en) = reqV (some (goodR L m s p)) ∧ (readS L en).isSome = true := by
  obtain ⟨q1, q2, q3, q4⟩ := endR_parts G.hm G.hs G.hp
  have cm := congrArg List.length G.hm
  have cs := congrArg List.length G.hs
  have cp := congrArg List.length G.hp
  rw [valuesL_len] at cm cs cp
  obtain ⟨_, _, _, _, _, _, k1, k2, k3, k4⟩ := names_ne
  have hh : headOk [] (L.take (frontN L)) = true := by
    rw [headOk_iff]
    refine ⟨G.hv, fun l => ?_⟩
    have hz : cntN [] l = 0 := rfl
    rw [hz, Nat.zero_add]
    by_cases hl : psName l = true
    · right
      rcases (psName_iff l).1 hl with h | h | h | h
      · rw [h, cm]; exact Nat.le_refl _
      · rw [h, cs]; exact Nat.le_refl _
      · rw [h, cp]; exact Nat.le_refl _
      · rw [h, ← valuesL_len]; exact G.ha
    · left
      unfold cntN
      rw [List.length_eq_zero_iff, List.filter_eq_nil_iff]
      intro f hf he
      have : f.name.data.toList = l := by simpa using he
      rw [← this] at hl
      exact hl (G.hv f hf).1
  have hgo : readGo L rd0 [] true = some (endR L, L) := by
    rw [readGo_parts, hh, G.ht, G.hl]
    rfl
  have hw : wholeB (endR L) L en = true := by
    unfold wholeB
    rw [q1, q2, q3, q4, cnt_head G.ht k1, cnt_head G.ht k2, cnt_head G.ht k3, cm, cs, cp, G.cm]
    have h1 : (s.data.toList == tHttp || s.data.toList == tHttps) = true := by
      simp only [Bool.or_eq_true, beq_iff_eq]; exact G.cs
    have h2 : (Lib.hasPrefix p.data.toList [47] || (p.data.toList == [42] && m.data.toList == tOpt)) = true := by
      simp only [Bool.or_eq_true, Bool.and_eq_true, beq_iff_eq]; exact G.cp
    have h3 : (!(en && decide (0 < (lenGo (valuesL (L.drop (frontN L)) nLen) 0 (-1)).1))) = true := by
      rcases G.ce with h | h
      · rw [h]; rfl
      · rw [decide_eq_false (by omega)]; simp
    rw [h1, h2, h3]
    rfl
  have hhost : (endR L).host = hostV (valuesL (L.drop (frontN L)) nHost) := by
    have h0 : ((L.take (frontN L)).foldl psSet rd0).host = ⟨#[]⟩ := (set_rest _ rd0).2
    show pick1 (cntN [] nHost) _ _ = _
    rw [h0]
    unfold pick1
    rw [if_pos (show cntN [] nHost = 0 from rfl)]
    cases valuesL (L.drop (frontN L)) nHost <;> rfl
  have hrank : (endR L).rank = rankV (valuesL (L.drop (frontN L)) nPrio) := by
    have h0 : ((L.take (frontN L)).foldl psSet rd0).rank = 3 := (set_rest _ rd0).1
    show pick1 (cntN [] nPrio) _ _ = _
    rw [h0]
    unfold pick1
    rw [if_pos (show cntN [] nPrio = 0 from rfl)]
    cases valuesL (L.drop (frontN L)) nPrio <;> rfl
  have hau : (if cntN L nAuth = 0 then { endR L with h := (endR L).host } else endR L).h = hostV (valuesL (L.take (frontN L)) nAuth ++ valuesL (L.drop (frontN L)) nHost) := by
    have ca := G.ha
    rw [cnt_head G.ht k4, ← valuesL_len]
    have hf := fold_last (·.h) nAuth set_h (L.take (frontN L)) rd0
    cases hV : valuesL (L.take (frontN L)) nAuth with
    | nil => rw [List.length_nil, if_pos rfl]; exact hhost
    | cons x t =>
      rw [hV] at ca hf
      cases t with
      | nil =>
        rw [if_neg (by simp)]
        exact hf
      | cons y z => simp at ca
  unfold readS
  rw [hgo]
  show reqV (if wholeB (endR L) L en = true then _ else _) = _ ∧ (if wholeB (endR L) L en = true then _ else _ : Option Rd).isSome = true
  rw [if_pos hw]
  refine ⟨?_, rfl⟩
  have g1 : (if cntN L nAuth = 0 then { endR L with h := (endR L).host } else endR L).m = m := by split <;> exact q1
  have g2 : (if cntN L nAuth = 0 then { endR L with h := (endR L).host } else endR L).s = s := by split <;> exact q2
  have g3 : (if cntN L nAuth = 0 then { endR L with h := (endR L).host } else endR L).p = p := by split <;> exact q3
  have g4 : (if cntN L nAuth = 0 then { endR L with h := (endR L).host } else endR L).len = (lenGo (valuesL (L.drop (frontN L)) nLen) 0 (-1)).1 := by split <;> exact q4
  have g5 : (if cntN L nAuth = 0 then { endR L with h := (endR L).host } else endR L).rank = rankV (valuesL (L.drop (frontN L)) nPrio) := by split <;> exact hrank
  show Value.agg #[.string _, .string _, .string _, .string _, .int .i64 _, .int .i64 _] = _
  rw [g1, g2, g3, g4, g5, hau]
  rfl
theorem readS_is {L : List Fld} {en : Bool} (h : (readS L en).isSome = true) : ∃ m s p, Good L en m s p := by
  unfold readS at h
  rw [readGo_parts] at h
  obtain ⟨_, _, _, _, _, _, k1, k2, k3, k4⟩ := names_ne
  by_cases hc : (headOk [] (L.take (frontN L)) && ((L.drop (frontN L)).all (plainB · true) && (lenGo (valuesL (L.drop (frontN L)) nLen) 0 (-1)).2)) = true
  · rw [if_pos hc] at h
    simp only [Bool.and_eq_true] at hc
    obtain ⟨c1, c2, c3⟩ := hc
    change (if wholeB (endR L) L en = true then _ else _ : Option Rd).isSome = true at h
    by_cases hw : wholeB (endR L) L en = true
    · unfold wholeB at hw
      simp only [Bool.and_eq_true, Bool.or_eq_true, decide_eq_true_eq, beq_iff_eq, Bool.not_eq_true', Bool.and_eq_false_iff, decide_eq_false_iff_not] at hw
      obtain ⟨w1, w2, w3, w4, w5⟩ := hw
      rw [cnt_head c2 k1, cnt_head c2 k2, cnt_head c2 k3] at w1
      obtain ⟨u1, u2, u3⟩ := prod_one w1
      have one : ∀ l, cntN (L.take (frontN L)) l = 1 → ∃ x, valuesL (L.take (frontN L)) l = [x] := fun l hl => by
        rw [← valuesL_len] at hl
        exact List.length_eq_one_iff.1 hl
      obtain ⟨m, hm⟩ := one _ u1
      obtain ⟨s, hs⟩ := one _ u2
      obtain ⟨p, hp⟩ := one _ u3
      obtain ⟨q1, q2, q3, q4⟩ := endR_parts hm hs hp
      rw [q1] at w2 w5
      rw [q2] at w3
      rw [q3] at w5
      rw [q4] at w4
      obtain ⟨hv, hc⟩ := (headOk_iff _ _).1 c1
      refine ⟨m, s, p, hm, hs, hp, ?_, hv, c2, c3, w2, w3, w5, ?_⟩
      · have := hc nAuth
        have hz : cntN [] nAuth = 0 := rfl
        rw [hz] at this
        rw [valuesL_len]
        omega
      · rcases w4 with h | h
        · exact .inl h
        · exact .inr (by omega)
    · rw [if_neg hw] at h
      cases h
  · rw [if_neg hc] at h
    cases h
theorem refR_is {L : List Fld} {en : Bool} (h : (refR L en).isSome = true) : ∃ m s p, Good L en m s p := by
  unfold refR at h
  by_cases ho : okR L en = true
  · exact okR_good ho
  · rw [if_neg ho] at h
    cases h
/-- The program's and the document's Read are one. -/
theorem read_law (L : List Fld) (en : Bool) : reqV (readS L en) = reqV (refR L en) ∧ (readS L en).isSome = (refR L en).isSome := by
  cases h : (readS L en).isSome with
  | true =>
    obtain ⟨m, s, p, G⟩ := readS_is h
    exact ⟨(readS_good G).1.trans (refR_good G).1.symm, (refR_good G).2.symm⟩
  | false =>
    cases h2 : (refR L en).isSome with
    | true =>
      obtain ⟨m, s, p, G⟩ := refR_is h2
      rw [(readS_good G).2] at h
      cases h
    | false =>
      have e1 : readS L en = none := by simpa using h
      have e2 : refR L en = none := by simpa using h2
      rw [e1, e2]
      exact ⟨rfl, rfl⟩
#print axioms read_law
end Go.Proofs.YtecmccihldjicaaDoor
