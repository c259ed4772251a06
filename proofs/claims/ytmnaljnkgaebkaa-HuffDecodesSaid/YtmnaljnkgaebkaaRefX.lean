/- HuffDecodes: what the law's function does: for any bytes it returns true. -/
import Derived.Test.YtmnaljnkgaebkaaRefW
namespace Go.Proofs.Ytmnaljnkgaebkaa
open Go.RowKit
set_option linter.unusedVariables false
set_option linter.unusedSimpArgs false

set_option maxRecDepth 100000 in
set_option maxHeartbeats 2000000 in
theorem decode_empty (p : Nat) (w : World) (hr : Ready p w) (oa : Option Addr) (cap : Nat) :
    Calls Try.prog 22 #[.pointer (some ⟨p, 0, none⟩), .slice oa 0 cap] w (DecPost p [] w) := by
  have HR := Lib.hid hr
  clear hr
  have hmf : ∀ (fn : Fn) (first cap : Array Value) (w : World), (Instr.makeFunc fn first cap).run Try.prog w = .ok (.func fn first cap) w := fun _ _ _ _ => rfl
  have htx : ∀ W, (convert 28 9 (.slice none 0 0)).run Try.prog W = .ok (.string ByteArray.empty) W := fun W => text_own W 0 _ [] (World.ownsRow_nil _ _ _ _)
  go_enter Try.func22, Try.ntmps22
  go_wp2_with (go_at_call 59; refine (do_any p w HR.out).mono ?_; rintro e W3 ⟨rfl, hD, hN⟩; have HD := Lib.hid hD; have HN := Lib.hid hN; clear hD hN)
  go_loopw [6, 7, 8, 9, 24] (fun out at' op fl i wr => out = .slice none 0 0 ∧ at' = .int .i64 0 ∧ op = .int .i64 0 ∧ fl = .bool true ∧ i = .int .i64 0 ∧ wr = W3) (fun _ _ _ _ i _ => (intOf i).toNat)
  case atStart => exact ⟨rfl, rfl, rfl, rfl, rfl, rfl⟩
  case round =>
    obtain ⟨rfl, rfl, rfl, rfl, rfl, rfl⟩ := hrel
    go_wp2_with fail
    refine bodyPost_ret (v := .tuple #[.string ByteArray.empty, .int .i64 0]) (by simp [results, Try.results22, go_sem]) rfl ⟨rfl, HD.out, HN.out⟩
def decPair : Option (List UInt8) → ByteArray × Int
  | none => (ByteArray.empty, 4)
  | some out => (⟨out.toArray⟩, 0)
theorem decV_pair (o : Option (List UInt8)) : decV o = .tuple #[.string (decPair o).1, .int .i64 (decPair o).2] := by cases o <;> rfl
theorem decode_arg (p : Nat) (w : World) (hr : Ready p w) (oa : Option Addr) (n cap : Nat) (bs : List Nat) (hn : bs.length = n) (hb : BytesN w oa bs) (hp : ∀ i a, i < bs.length → oa = some a → a.block ≠ p) (hlen : bs.length ≤ 1000000) (hbyte : ∀ i, i < bs.length → bs.getD i 0 < 256) :
    Calls Try.prog 22 #[.pointer (some ⟨p, 0, none⟩), .slice oa n cap] w (DecPost p bs w) := by
  subst hn
  cases bs with
  | nil => exact decode_empty p w hr oa cap
  | cons x l => exact decode_any p w hr oa cap (x :: l) hb (fun a ha => hp 0 a (by simp) ha) hlen hbyte
set_option maxRecDepth 100000 in
set_option maxHeartbeats 2000000 in
theorem decodes_any (oa : Option Addr) (n cap : Nat) (bs : List Nat) (hn : bs.length = n) (w : World) (hby : BytesN w oa bs) (hlen : n ≤ 20) (hbyte : ∀ i, i < bs.length → bs.getD i 0 < 256) :
    Calls Try.prog 4 #[.slice oa n cap] w fun e w' => e = .returned (.bool true) ∧ Below w.heap.size w w' := by
  have HBY := Lib.hid hby
  have HBT := Lib.hid hbyte
  have HN := Lib.hid hn
  have hni : (n : Int) ≤ 20 := by omega
  have hl1 : bs.length ≤ 20 := by omega
  clear hby hbyte hn
  go_enter Try.func4, Try.ntmps4
  go_wp2_with fail
  refine (new_any _).mono ?_
  rintro e w1 ⟨rfl, hB1, hC1⟩
  have HB1 := Lib.hid hB1
  have HC1 := Lib.hid hC1
  clear hB1 hC1
  have HP := Lib.hid (show ∀ i a, i < bs.length → oa = some a → a.block ≠ w.heap.size from fun i a hi ha => by
    obtain ⟨a', ha', hc⟩ := HBY.out i hi
    rw [ha] at ha'
    obtain rfl := Option.some.inj ha'
    have h1 := World.block_lt_of_cell? _ _ hc
    rw [show (a.add i).block = a.block from by unfold Addr.add; split <;> rfl] at h1
    omega)
  go_wp2_with fail
  refine (decode_arg w.heap.size w1 (.inl ⟨_, HC1.out⟩) oa n cap bs HN.out (HBY.out.below HB1.out) HP.out (by omega) HBT.out).mono ?_
  rintro e w2 ⟨rfl, hD2, hN2⟩
  have HN2 := Lib.hid hN2
  clear hD2 hN2
  rw [decV_pair]
  have HDP := Lib.hid (decV_pair (decL bs))
  generalize (decPair (decL bs)).1 = A at HDP ⊢
  generalize (decPair (decL bs)).2 = E at HDP ⊢
  have hp1 := HC1.out.lt
  have hB2 := HB1.out.trans ((HN2.out.below hp1).mono (Nat.le_refl _))
  have HB2 := Lib.hid hB2
  clear hB2
  go_wp2_with fail
  have hrd := refDecode_any oa cap bs w2 (HBY.out.below HB2.out) hl1 HBT.out
  rw [HN.out] at hrd
  refine hrd.mono ?_
  clear hrd
  rintro e w3 ⟨rfl, hB3⟩
  have HB3 := Lib.hid (HB2.out.trans (hB3.mono HB2.out.size))
  clear hB3
  rw [HDP.out]
  go_wp2_with fail
  refine (awake_any _).mono ?_
  rintro e w4 ⟨rfl, hb⟩
  have HB4 := Lib.hid (HB3.out.trans (hb.mono HB3.out.size))
  clear hb
  go_wp2_with fail
  go_ret
  exact ⟨rfl, HB4.out⟩
theorem decodes_all (oa : Option Addr) (n cap : Nat) (bs : List Nat) (hn : bs.length = n) (w : World) (hby : BytesN w oa bs) (hbyte : ∀ i, i < bs.length → bs.getD i 0 < 256) :
    Calls Try.prog 4 #[.slice oa n cap] w fun e w' => e = .returned (.bool true) ∧ Below w.heap.size w w' := by
  by_cases h : n ≤ 20
  · exact decodes_any oa n cap bs hn w hby h hbyte
  · have hni : (20 : Int) < (n : Int) := by omega
    clear hn hby hbyte
    go_enter Try.func4, Try.ntmps4
    go_wp2_with fail
    refine (awake_any _).mono ?_
    rintro e w4 ⟨rfl, hb⟩
    go_wp2_with fail
    go_ret
    exact ⟨rfl, hb⟩
end Go.Proofs.Ytmnaljnkgaebkaa
