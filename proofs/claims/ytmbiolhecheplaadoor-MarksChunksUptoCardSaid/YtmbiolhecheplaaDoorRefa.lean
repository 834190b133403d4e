/-
  The reference's With and Has: what each call returns. For every mask and every place from 0 to 1000; nothing is written.
-/
import Derived.Test.YtmbiolhecheplaaDoorProg
import Derived.Test.YtmbiolhecheplaaDoorU
import Derived.WalkKit
import Derived.WalkSpells
import Derived.WalkLawsBesides
import Derived.Lib.Hide
namespace Go.Proofs.YtmbiolhecheplaaDoor
open Go.RowKit
theorem ret_u64 {a b : BitVec 64} (h : a = b) : Ending.returned (.int .u64 (U a)) = .returned (.int .u64 (U b)) := by rw [h]
theorem ret_b {a b : Bool} (h : a = b) : Ending.returned (.bool a) = .returned (.bool b) := by rw [h]
theorem int_u64 {a b : Int} (h : a = b) : Value.int .u64 a = .int .u64 b := by rw [h]

theorem with_step (j : Nat) (_hj : j < 1000) : IntKind.u64.wrap (U (1#64 <<< j) * 2) = U (1#64 <<< (j + 1)) := by
  have := U_shl (1#64 <<< j) 1 (by omega)
  rw [show (2 : Int) ^ 1 = 2 from rfl] at this
  rw [this, ← BitVec.shiftLeft_add]

theorem has_step (x : BitVec 64) (j : Nat) : IntKind.u64.wrap ((U (x >>> j)).tdiv 2) = U (x >>> (j + 1)) := by
  have := U_shr (x >>> j) 1
  rw [show (2 : Int) ^ 1 = 2 from rfl] at this
  rw [Int.tdiv_eq_ediv_of_nonneg (U_lo _), this, U_wrap, ← BitVec.shiftRight_add]

theorem has_end (x : BitVec 64) (i : Nat) : (U (x >>> i) % 2 == 1) = x.getLsbD i := by
  have e : U (x >>> i) % 2 = ((x.toNat >>> i % 2 : Nat) : Int) := by unfold U; rw [BitVec.toNat_ushiftRight]; rfl
  rw [e, BitVec.getLsbD, Nat.testBit, Nat.and_comm, Nat.and_one_is_mod]
  have := Nat.mod_two_eq_zero_or_one (x.toNat >>> i)
  rcases this with h | h <;> rw [h] <;> rfl

set_option maxHeartbeats 400000 in
theorem with_on (x : BitVec 64) (i : Nat) (hi : i ≤ 1000) (w : World) :
    Calls Tryd.prog 30 #[.int .u64 (U x), .int .i64 i, .bool true] w fun e w' => e = .returned (.int .u64 (U (x + 1#64 <<< i))) ∧ w = w' := by
  go_enter Tryd.func30, Tryd.ntmps30
  go_wp2
  go_loop [7, 8] (fun p k => ∃ j : Nat, j ≤ i ∧ k = .int .i64 j ∧ p = .int .u64 (U (1#64 <<< j))) (fun _ k => i - (intOf k).toNat)
  case atStart => exact ⟨0, Nat.zero_le _, rfl, rfl⟩
  case round =>
    obtain ⟨j, hj, rfl, rfl⟩ := hrel
    by_cases hlt : j < i
    · go_wp2
      go_round
      case rel => exact ⟨j + 1, by omega, by go_num, int_u64 (with_step j (by omega))⟩
      case measure => simp [intOf]; omega
    · go_wp2
      go_ret
      obtain rfl : j = i := by omega
      exact ⟨by rw [U_add]; rfl, rfl⟩

set_option maxHeartbeats 400000 in
theorem with_off (x : BitVec 64) (i : Nat) (w : World) :
    Calls Tryd.prog 30 #[.int .u64 (U x), .int .i64 i, .bool false] w fun e w' => e = .returned (.int .u64 (U x)) ∧ w = w' := by
  go_enter Tryd.func30, Tryd.ntmps30
  go_wp2
  go_ret
  exact ⟨rfl, rfl⟩

/-- With, at a mask in the making: bit k of it is told. -/
theorem with_mk (k : Nat) (hk : k < 64) (f : Nat → Bool) (on : Bool) (hon : on = f k) (w : World) :
    Calls Tryd.prog 30 #[.int .u64 (U (Lo.mk k f)), .int .i64 k, .bool on] w fun e w' => e = .returned (.int .u64 (U (Lo.mk (k + 1) f))) ∧ w = w' := by
  cases on
  · refine (with_off _ k w).mono fun e w' ⟨he, hw⟩ => ⟨he.trans (ret_u64 ?_), hw⟩
    rw [Lo.mk, ← hon]; rfl
  · refine (with_on _ k (by omega) w).mono fun e w' ⟨he, hw⟩ => ⟨he.trans (ret_u64 ?_), hw⟩
    rw [Lo.mk, ← hon]; rfl

set_option maxHeartbeats 400000 in
theorem has_any (x : BitVec 64) (i : Nat) (hi : i ≤ 1000) (w : World) :
    Calls Tryd.prog 29 #[.int .u64 (U x), .int .i64 i] w fun e w' => e = .returned (.bool (x.getLsbD i)) ∧ w = w' := by
  go_enter Tryd.func29, Tryd.ntmps29
  go_wp2
  go_loop [0, 5] (fun p k => ∃ j : Nat, j ≤ i ∧ k = .int .i64 j ∧ p = .int .u64 (U (x >>> j))) (fun _ k => i - (intOf k).toNat)
  case atStart => exact ⟨0, Nat.zero_le _, rfl, by simp⟩
  case round =>
    obtain ⟨j, hj, rfl, rfl⟩ := hrel
    by_cases hlt : j < i
    · go_wp2
      go_round
      case rel => exact ⟨j + 1, by omega, by go_num, int_u64 (has_step x j)⟩
      case measure => simp [intOf]; omega
    · go_wp2
      go_ret
      obtain rfl : j = i := by omega
      exact ⟨ret_b (has_end x j), rfl⟩
end Go.Proofs.YtmbiolhecheplaaDoor
