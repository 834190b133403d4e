/-
  shown of layer 6, the document's examples: it returns true. No condition; what was there stays as it is.
-/
import Derived.Test.YtmbiolhecheplaaBscan
import Derived.Lib.SlBytesConst
namespace Go.Proofs.Ytmbiolhecheplaa
open Go.RowKit

theorem U_of_wf {n : Int} (h : (Lit.int .u64 n).wf = true) : ∃ x, n = U x := by
  have hb : 0 ≤ n ∧ n < 18446744073709551616 := by
    simp [Lit.wf, IntKind.min, IntKind.max, IntKind.signed, IntKind.bits] at h; omega
  exact ⟨_, U_of n hb.1 hb.2⟩
def TrueIs (w : World) (e : Ending) (w' : World) : Prop := e = .returned (.bool true) ∧ Below w.heap.size w w'

theorem escD_3 : Lo.escD 3#64 false = 2#64 := by decide +kernel
theorem esc_3 : Lo.esc (3#64).getLsbD false 64 = false := by decide +kernel
theorem escD_top : Lo.escD 9223372036854775808#64 false = 0#64 := by decide +kernel
theorem esc_top : Lo.esc (9223372036854775808#64).getLsbD false 64 = true := by decide +kernel
theorem pre_18 : Lo.pre 18#64 = 14#64 := by decide +kernel
theorem U_3 : U 3#64 = 3 := by unfold U; rfl
theorem U_big : U 9223372036854775808#64 = 9223372036854775808 := by unfold U; rfl
theorem U_18 : U 18#64 = 18 := by unfold U; rfl
theorem U_14 : U 14#64 = 14 := by unfold U; rfl
theorem U_2 : U 2#64 = 2 := by unfold U; rfl

theorem shown_e3 (w : World) : Calls Try.prog 16 #[.int .u64 3, .bool false] w fun e w' => e = .returned (.tuple #[.int .u64 2, .bool false]) ∧ w = w' := by
  have h := escaped_any 3#64 false w
  unfold MB at h
  rwa [escD_3, esc_3, U_3, U_2] at h
theorem shown_eb (w : World) : Calls Try.prog 16 #[.int .u64 9223372036854775808, .bool false] w fun e w' => e = .returned (.tuple #[.int .u64 0, .bool true]) ∧ w = w' := by
  have h := escaped_any 9223372036854775808#64 false w
  unfold MB at h
  rwa [escD_top, esc_top, U_big, U_zero] at h
theorem shown_p (w : World) : Calls Try.prog 14 #[.int .u64 18] w fun e w' => e = .returned (.int .u64 14) ∧ w = w' := by
  have h := prefix_any 18#64 w
  rwa [pre_18, U_18, U_14] at h
def ex_g (i : Nat) : Int := [123, 34, 97, 34, 58, 49, 125].getD i 0
theorem ex_masks : masks 7 ex_g false false = #[.int .u64 10, .int .u64 6, .int .u64 1, .int .u64 64, .int .u64 16, .int .u64 0, .int .u64 0] := by
  have h1 : Lo.qM 7 ex_g false = 10#64 := by decide +kernel
  have h2 : Lo.iM 7 ex_g false false = 6#64 := by decide +kernel
  have h3 : (Lo.aM 7 ex_g false false fun c => c == 91 || c == 123) = 1#64 := by decide +kernel
  have h4 : (Lo.aM 7 ex_g false false fun c => c == 93 || c == 125) = 64#64 := by decide +kernel
  have h5 : (Lo.aM 7 ex_g false false fun c => c == 58) = 16#64 := by decide +kernel
  have h6 : (Lo.aM 7 ex_g false false fun c => c == 44) = 0#64 := by decide +kernel
  have h7 : (Lo.aM 7 ex_g false false fun c => c == 32 || c == 9 || c == 10 || c == 13) = 0#64 := by decide +kernel
  rw [masks, h1, h2, h3, h4, h5, h6, h7]
  unfold U
  rfl
theorem ex_carry : carry 7 ex_g false false = #[.bool false, .bool false] := by
  have h1 : Lo.so ex_g false 7 = false := by decide +kernel
  have h2 : Lo.si ex_g false false 7 = false := by decide +kernel
  rw [carry, h1, h2]
theorem shown_s (A : Option Addr) (cp : Nat) (w : World) (hb : BS w A 7 ex_g) : Calls Try.prog 20 #[.slice A 7 cp, .agg #[.bool false, .bool false]] w fun e w' =>
    e = .returned (.tuple #[.agg #[.int .u64 10, .int .u64 6, .int .u64 1, .int .u64 64, .int .u64 16, .int .u64 0, .int .u64 0], .agg #[.bool false, .bool false]]) ∧ Below w.heap.size w w' := by
  have h := scan_any A 7 cp ex_g false false w hb (by omega)
  unfold ScanIs at h
  rw [show min 64 7 = 7 from rfl, ex_masks, ex_carry] at h
  exact h

/-- the law's literal, as a row that was just laid -/
theorem ex_row (w : World) : BS (w.alloc (.cells #[.int .u8 123, .int .u8 34, .int .u8 97, .int .u8 34, .int .u8 58, .int .u8 49, .int .u8 125] 5 (7, 8))) (some ⟨w.heap.size, 0, none⟩) 7 ex_g := by
  refine .inr ⟨_, _, rfl, fun i hi => ?_⟩
  rw [Nat.zero_add, World.cell?_alloc_mark]
  have : i = 0 ∨ i = 1 ∨ i = 2 ∨ i = 3 ∨ i = 4 ∨ i = 5 ∨ i = 6 := by omega
  rcases this with rfl | rfl | rfl | rfl | rfl | rfl | rfl <;> rfl

set_option maxHeartbeats 1000000 in
theorem shown_any (w : World) : Calls Try.prog 11 #[] w (TrueIs w) := by
  have kc := fun (w : World) (C : Array Value) (n c : Nat) => Lib.run_convert_bytes_const (P := Try.prog) w 22 5 C n c Try.underlying22 Try.underlying5
  go_enter Try.func11, Try.ntmps11
  go_wp2_with fail
  refine (shown_e3 _).mono ?_
  rintro e w1 ⟨rfl, rfl⟩
  go_wp2_with fail
  refine (shown_eb _).mono ?_
  rintro e w1 ⟨rfl, rfl⟩
  go_wp2_with fail
  refine (shown_s _ _ _ (ex_row _)).mono ?_
  rintro e w1 ⟨rfl, hb1⟩
  have HB1 := Lib.hid hb1
  clear hb1
  go_wp2_with fail
  refine (shown_p _).mono ?_
  rintro e w2 ⟨rfl, rfl⟩
  go_wp2
  go_ret
  refine ⟨rfl, ?_⟩
  have h1 : Below w.heap.size w w1 := ((Below.refl _ _).alloc (Nat.le_refl _) _).trans (HB1.out.mono (by simp))
  have hs := h1.size
  go_grown
end Go.Proofs.Ytmbiolhecheplaa
