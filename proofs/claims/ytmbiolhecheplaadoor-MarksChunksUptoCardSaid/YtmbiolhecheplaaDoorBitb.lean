/-
  bitmap's Escaped and Inside: what each call returns. For every mask; nothing is written.
-/
import Derived.Test.YtmbiolhecheplaaDoorBita
import Derived.Laws.Externs
import Derived.KernelRfl
namespace Go.Proofs.YtmbiolhecheplaaDoor
open Go.RowKit

theorem U_evens : U Lo.evens = 6148914691236517205 := by unfold U Lo.evens; rfl
theorem U_shl1 (x : BitVec 64) : IntKind.u64.wrap (U x * 2) = U (x <<< 1) := U_shl x 1 (by omega)
theorem U_shr63 (x : BitVec 64) : U x / 9223372036854775808 = U (x >>> 63) := U_shr x 63
theorem U_andNotE (x : BitVec 64) : bits .andNot .u64 (U x) 6148914691236517205 = U (x &&& ~~~Lo.evens) := by rw [← U_evens, U_andNot]
theorem U_xorE (x : BitVec 64) : bits .xor .u64 6148914691236517205 (U x) = U (Lo.evens ^^^ x) := by rw [← U_evens, U_xor]

theorem U_not (x : BitVec 64) : bits .xor .u64 IntKind.u64.max (U x) = U (~~~x) := by
  have h : (IntKind.u64.max : Int) = U (BitVec.allOnes 64) := rfl
  rw [h, U_xor, BitVec.xor_comm, BitVec.xor_allOnes]
theorem U_top (x : BitVec 64) : (U x / 9223372036854775808 == 1) = x.getLsbD 63 := by
  have e : U x / 9223372036854775808 = ((x.toNat / 9223372036854775808 : Nat) : Int) := by unfold U; omega
  have hx := x.isLt
  rw [e, BitVec.getLsbD, Nat.testBit_eq_decide_div_mod_eq, show (2 : Nat) ^ 63 = 9223372036854775808 from rfl]
  have : x.toNat / 9223372036854775808 = 0 ∨ x.toNat / 9223372036854775808 = 1 := by omega
  rcases this with h | h <;> rw [h] <;> rfl
/-- the post of a call that returns a mask and a bool -/
def MB (m : BitVec 64) (b : Bool) (w : World) (e : Ending) (w' : World) : Prop := e = .returned (.tuple #[.int .u64 (U m), .bool b]) ∧ w = w'
theorem MB.of {m m' : BitVec 64} {b b' : Bool} {w : World} (h : m = m') (h' : b = b') : MB m' b' w (.returned (.tuple #[.int .u64 (U m), .bool b])) w := ⟨by rw [h, h'], rfl⟩
theorem U_one_beq (b : Bool) : (U (Lo.one b) == 1) = b := by cases b <;> rfl
theorem carry_of (x y : BitVec 64) : (x.toNat + y.toNat) / 18446744073709551616 = (Lo.one (BitVec.carry 64 x y false)).toNat := by
  have hx := x.isLt
  have hy := y.isLt
  have e : BitVec.carry 64 x y false = decide (18446744073709551616 ≤ x.toNat + y.toNat) := by
    simp only [BitVec.carry, Bool.toNat_false, Nat.add_zero]
    rw [Nat.mod_eq_of_lt hx, Nat.mod_eq_of_lt hy]
  rw [e]
  by_cases h : 18446744073709551616 ≤ x.toNat + y.toNat
  · rw [decide_eq_true h]; show _ = 1; omega
  · rw [decide_eq_false h]; show _ = 0; omega
theorem add64_run (x y : BitVec 64) (w : World) : (callFunc 37 #[.int .u64 (U x), .int .u64 (U y), .int .u64 0]).run Tryd.prog w =
    .ok (.value (.tuple #[.int .u64 (U (x + y)), .int .u64 (U (Lo.one (BitVec.carry 64 x y false)))])) w := by
  rw [run_callFunc_extern Tryd.func37 (by kernel_rfl) (by kernel_rfl) (by kernel_rfl) (e := add64Entry) (by kernel_rfl), run_add64 _ _ _ (U_lo x) (U_lo y) (by omega) (by omega)]
  have e1 : (U x + U y + 0) % 18446744073709551616 = U (x + y) := by
    rw [← U_add, IntKind.wrap_u64, Int.add_zero]
  have e2 : (U x + U y + 0) / 18446744073709551616 = U (Lo.one (BitVec.carry 64 x y false)) := by
    show _ = ((Lo.one (BitVec.carry 64 x y false)).toNat : Int)
    rw [← carry_of]; unfold U; omega
  rw [e1, e2]
  rfl

attribute [local go_sem] U_and U_or U_andNot U_shl1 U_andNotE U_xorE add64_run U_one_beq
set_option maxHeartbeats 400000 in
theorem escaped_any (x : BitVec 64) (odd : Bool) (w : World) :
    Calls Tryd.prog 32 #[.int .u64 (U x), .bool odd] w (MB (Lo.escD x odd) (Lo.esc x.getLsbD odd 64) w) := by
  go_enter Tryd.func32, Tryd.ntmps32
  go_wp2_with (go_at_call 36; refine (one_any _ _).mono ?_; rintro e w' ⟨rfl, rfl⟩)
  go_ret2
  refine MB.of ?_ (Lo.escCarry_eq x odd)
  have h := Lo.escMask_eq x odd
  rw [← h]
  simp [Lo.escMask, Lo.escSum, Lo.escStarts, Lo.escFollows, Lo.escBack]

attribute [local go_sem] U_not U_top
set_option maxHeartbeats 400000 in
theorem inside_any (x : BitVec 64) (inn : Bool) (w : World) :
    Calls Tryd.prog 34 #[.int .u64 (U x), .bool inn] w (MB (Lo.insD x inn) (inn ^^ Lo.par x.getLsbD 64) w) := by
  rw [← Lo.ins_top]
  cases inn
  all_goals
    first | rw [← Lo.ins_false] | rw [← Lo.ins_true]
    go_enter Tryd.func34, Tryd.ntmps34
    go_wp2_with (go_at_call 38; refine (prefix_any _ _).mono ?_; rintro e w' ⟨rfl, rfl⟩)
    all_goals
      go_ret2
      exact MB.of rfl rfl
end Go.Proofs.YtmbiolhecheplaaDoor
