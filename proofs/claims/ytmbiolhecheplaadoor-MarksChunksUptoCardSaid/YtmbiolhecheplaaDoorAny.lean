/-
  The closure of bitmap's Scan: where one of a text's bytes stands, outside strings. For all bytes and every text; nothing is written.
-/
import Derived.Test.YtmbiolhecheplaaDoorRscan
import Derived.Deep.QuietTactic
import Derived.BigQuiet
import Derived.PlainAid
namespace Go.Proofs.YtmbiolhecheplaaDoor
open Go.RowKit

theorem BS.keep {w w' : World} {A : Option Addr} {n : Nat} {g : Nat → Int} (h : BS w A n g) (hk : ∀ a v, w.cell? a = some v → w'.cell? a = some v) : BS w' A n g := by
  rcases h with h | ⟨b, off, e, hc⟩
  · exact .inl h
  · exact .inr ⟨b, off, e, fun i hi => hk _ _ (hc i hi)⟩
theorem BS.drewN {w : World} {A : Option Addr} {n : Nat} {g : Nat → Int} (h : BS w A n g) (k : Nat) : BS (w.drewN k) A n g := h.keep fun _ _ e => e
theorem BS.below {w w' : World} {A : Option Addr} {n : Nat} {g : Nat → Int} (h : BS w A n g) (hb : Below w.heap.size w w') : BS w' A n g :=
  h.keep fun a _ e => (hb.cell (p := a) (World.block_lt_of_cell? _ _ e)).trans e

theorem quiet_l {P : Program} {f : FuncId} {args : Array Value} {w : World} {n : Nat} {v : Value}
    (h : Calls P f args (w.drewN n) fun e w' => e = .returned v ∧ w.drewN n = w') : Calls P f args (w.drewN n) fun e w'' => e = .returned v ∧ ∃ m, w'' = w.drewN m :=
  h.mono fun _ _ ⟨he, hm⟩ => ⟨he, n, hm.symm⟩
theorem quiet_al {P : Program} {f : FuncId} {args : Array Value} {w : World} {a n : Nat} {v : Value}
    (h : Calls P f args (w.drewN (a + n)) fun e w' => e = .returned v ∧ w.drewN (a + n) = w') : Calls P f args (w.drewN (a + n)) fun e w'' => e = .returned v ∧ ∃ m, w'' = w.drewN (a + m) :=
  h.mono fun _ _ ⟨he, hm⟩ => ⟨he, n, hm.symm⟩

/-- where one of the first k of a text's bytes stands -/
def orS (n : Nat) (g : Nat → Int) (s : ByteArray) : Nat → BitVec 64
  | 0 => 0#64
  | k + 1 => orS n g s k ||| Lo.bitsM n g (PlainAid.bt s k)

def anyD (n : Nat) (g : Nat → Int) (inn : BitVec 64) (s : ByteArray) : BitVec 64 := orS n g s s.size &&& ~~~inn
theorem anyD_of (n : Nat) (hn : n ≤ 64) (g : Nat → Int) (o i : Bool) (s : ByteArray) (p : Int → Bool) (h : ∀ k, k < 64 → (orS n g s s.size).getLsbD k = (decide (k < n) && p (g k))) : anyD n g (Lo.iM n g o i) s = Lo.aM n g o i p :=
  Lo.any1_eq n hn g o i _ p h
theorem orS1 (n : Nat) (hn : n ≤ 64) (g : Nat → Int) (c : Int) : ∀ k, k < 64 → (0#64 ||| Lo.bitsM n g c).getLsbD k = (decide (k < n) && (g k == c)) := by
  intro k hk
  rw [BitVec.getLsbD_or, Lo.bitsM, Lo.lsb_mk hn hk]; simp
theorem any_o (n : Nat) (hn : n ≤ 64) (g : Nat → Int) (o i : Bool) : anyD n g (Lo.iM n g o i) ⟨#[91, 123]⟩ = Lo.aM n g o i fun c => c == 91 || c == 123 := by
  refine anyD_of n hn g o i _ _ ?_
  have e : orS n g ⟨#[91, 123]⟩ (ByteArray.size ⟨#[91, 123]⟩) = ((0#64 ||| Lo.bitsM n g 91) ||| Lo.bitsM n g 123) := rfl
  rw [e]
  exact Lo.or_any n hn g _ (fun d => d == 91) _ (orS1 n hn g _)
theorem any_c (n : Nat) (hn : n ≤ 64) (g : Nat → Int) (o i : Bool) : anyD n g (Lo.iM n g o i) ⟨#[93, 125]⟩ = Lo.aM n g o i fun c => c == 93 || c == 125 := by
  refine anyD_of n hn g o i _ _ ?_
  have e : orS n g ⟨#[93, 125]⟩ (ByteArray.size ⟨#[93, 125]⟩) = ((0#64 ||| Lo.bitsM n g 93) ||| Lo.bitsM n g 125) := rfl
  rw [e]
  exact Lo.or_any n hn g _ (fun d => d == 93) _ (orS1 n hn g _)
theorem any_n (n : Nat) (hn : n ≤ 64) (g : Nat → Int) (o i : Bool) : anyD n g (Lo.iM n g o i) ⟨#[58]⟩ = Lo.aM n g o i fun c => c == 58 := by
  refine anyD_of n hn g o i _ _ ?_
  have e : orS n g ⟨#[58]⟩ (ByteArray.size ⟨#[58]⟩) = (0#64 ||| Lo.bitsM n g 58) := rfl
  rw [e]
  exact orS1 n hn g _
theorem any_m (n : Nat) (hn : n ≤ 64) (g : Nat → Int) (o i : Bool) : anyD n g (Lo.iM n g o i) ⟨#[44]⟩ = Lo.aM n g o i fun c => c == 44 := by
  refine anyD_of n hn g o i _ _ ?_
  have e : orS n g ⟨#[44]⟩ (ByteArray.size ⟨#[44]⟩) = (0#64 ||| Lo.bitsM n g 44) := rfl
  rw [e]
  exact orS1 n hn g _
theorem any_s (n : Nat) (hn : n ≤ 64) (g : Nat → Int) (o i : Bool) : anyD n g (Lo.iM n g o i) ⟨#[32, 9, 10, 13]⟩ = Lo.aM n g o i fun c => c == 32 || c == 9 || c == 10 || c == 13 := by
  refine anyD_of n hn g o i _ _ ?_
  have e : orS n g ⟨#[32, 9, 10, 13]⟩ (ByteArray.size ⟨#[32, 9, 10, 13]⟩) = ((((0#64 ||| Lo.bitsM n g 32) ||| Lo.bitsM n g 9) ||| Lo.bitsM n g 10) ||| Lo.bitsM n g 13) := rfl
  rw [e]
  exact Lo.or_any n hn g _ (fun d => d == 32 || d == 9 || d == 10) _ (Lo.or_any n hn g _ (fun d => d == 32 || d == 9) _ (Lo.or_any n hn g _ (fun d => d == 32) _ (orS1 n hn g _)))

def AnyIs (x : BitVec 64) (w : World) (e : Ending) (w' : World) : Prop := e = .returned (.int .u64 (U x)) ∧ ∃ m, w' = w.drewN m

set_option maxHeartbeats 1000000 in
theorem any_any (s : ByteArray) (A : Option Addr) (n cp : Nat) (g : Nat → Int) (inn : BitVec 64) (pb pi : Addr) (w : World) (hb : BS w A n g) (hn : n ≤ 9223372036854775807) (hs : s.size ≤ 100)
    (h1 : w.cell? pb = some (.slice A n cp)) (h2 : w.cell? pi = some (.int .u64 (U inn))) :
    Calls Tryd.prog 35 #[.string s, .pointer (some pb), .pointer (some pi)] w (AnyIs (anyD (min 64 n) g inn s) w) := by
  have HB := Lib.hid hb
  clear hb
  have gb := PlainAid.get_bt s
  have HG := Lib.hid gb
  clear gb
  have r4 := U_andNot
  go_enter Tryd.func35, Tryd.ntmps35
  go_wp2
  go_loopw [5, 9] (fun x k wr => ∃ j : Nat, j ≤ s.size ∧ k = .int .i64 j ∧ x = .int .u64 (U (orS (min 64 n) g s j)) ∧ ∃ m, wr = w.drewN m) (fun _ k _ => s.size - (intOf k).toNat)
  case atStart => exact ⟨0, Nat.zero_le _, rfl, rfl, 0, rfl⟩
  case round =>
    obtain ⟨j, hj, rfl, rfl, m, rfl⟩ := hrel
    by_cases hlt : j < s.size
    · have hgj := HG.out j hlt
      have hstep := U_or (orS (min 64 n) g s j) (Lo.bitsM (min 64 n) g (PlainAid.bt s j))
      have HS := Lib.hid hstep
      clear hstep
      go_wp2
      go_quiet ((go_at_call 33; exact quiet_al (bits_any A n cp g _ _ (HB.out.drewN _) hn)))
      go_wp2
      go_roundw
      case rel => exact ⟨j + 1, by omega, by go_num, int_u64 HS.out, _, rfl⟩
      case measure => simp [intOf]; omega
    · go_wp2
      go_ret
      obtain rfl : j = s.size := by omega
      exact ⟨rfl, _, rfl⟩
end Go.Proofs.YtmbiolhecheplaaDoor
