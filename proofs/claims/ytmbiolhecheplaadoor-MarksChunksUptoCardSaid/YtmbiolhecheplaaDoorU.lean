/-
  A uint64 as a vector of 64 bits: the walk's integer operations on U x, U y are U of the vector's own operations. Plain: no program in sight. No condition.
-/
import Derived.Test.YtmbiolhecheplaaDoorScan
import Derived.WalkKit
import Derived.Laws.BitsAllLaws
namespace Go.Proofs.YtmbiolhecheplaaDoor
open Go.RowKit

/-- The number of a vector of 64 bits. -/
def U (x : BitVec 64) : Int := (x.toNat : Int)

theorem U_lo (x : BitVec 64) : 0 ≤ U x := by unfold U; omega
theorem U_hi (x : BitVec 64) : U x < 18446744073709551616 := by unfold U; have := x.isLt; omega
theorem U_inj {x y : BitVec 64} : U x = U y ↔ x = y := by
  unfold U
  constructor
  · intro h; exact BitVec.eq_of_toNat_eq (by omega)
  · rintro rfl; rfl
theorem U_beq (x y : BitVec 64) : (U x == U y) = (x == y) := by
  by_cases h : x = y
  · subst h; simp
  · have : ¬ U x = U y := fun e => h (U_inj.1 e)
    rw [beq_eq_false_iff_ne.2 this, beq_eq_false_iff_ne.2 h]
theorem U_of (n : Int) (h0 : 0 ≤ n) (h1 : n < 18446744073709551616) : n = U (BitVec.ofNat 64 n.toNat) := by
  unfold U; rw [BitVec.toNat_ofNat]; omega
theorem U_lit (k : Nat) (h : k < 18446744073709551616) : ((k : Nat) : Int) = U (BitVec.ofNat 64 k) := by
  unfold U; rw [BitVec.toNat_ofNat]; omega
theorem U_zero : U 0#64 = 0 := rfl
theorem U_one : U 1#64 = 1 := rfl

theorem wrap_nat (n : Nat) : IntKind.u64.wrap (n : Int) = U (BitVec.ofNat 64 n) := by
  rw [IntKind.wrap_u64]; unfold U; rw [BitVec.toNat_ofNat]; omega
theorem U_wrap (x : BitVec 64) : IntKind.u64.wrap (U x) = U x := by
  rw [IntKind.wrap_u64]; have := U_lo x; have := U_hi x; omega
theorem U_add (x y : BitVec 64) : IntKind.u64.wrap (U x + U y) = U (x + y) := by
  rw [IntKind.wrap_u64]; unfold U; rw [BitVec.toNat_add]; omega
theorem U_sub (x y : BitVec 64) : IntKind.u64.wrap (U x - U y) = U (x - y) := by
  have := U_lo x; have := U_hi x; have := U_lo y; have := U_hi y
  rw [IntKind.wrap_u64]; unfold U at *; rw [BitVec.toNat_sub]; omega
theorem U_and (x y : BitVec 64) : bits .and .u64 (U x) (U y) = U (x &&& y) := by
  unfold U; rw [u64_and_nat _ _ x.isLt y.isLt, BitVec.toNat_and]
theorem U_or (x y : BitVec 64) : bits .or .u64 (U x) (U y) = U (x ||| y) := by
  unfold U; rw [u64_or_nat _ _ x.isLt y.isLt, BitVec.toNat_or]
theorem U_xor (x y : BitVec 64) : bits .xor .u64 (U x) (U y) = U (x ^^^ y) := by
  unfold U; rw [u64_xor_nat _ _ x.isLt y.isLt, BitVec.toNat_xor]
theorem U_andNot (x y : BitVec 64) : bits .andNot .u64 (U x) (U y) = U (x &&& ~~~y) := by
  unfold U; rw [u64_andNot_nat _ _ x.isLt y.isLt, BitVec.toNat_and, BitVec.toNat_not]
theorem U_shl (x : BitVec 64) (k : Nat) (_hk : k ≤ 64) : IntKind.u64.wrap (U x * 2 ^ k) = U (x <<< k) := by
  have e : U x * 2 ^ k = ((x.toNat * 2 ^ k : Nat) : Int) := by unfold U; rw [Int.natCast_mul, Int.natCast_pow]; rfl
  rw [e, wrap_nat]
  congr 1
  apply BitVec.eq_of_toNat_eq
  rw [BitVec.toNat_ofNat, BitVec.toNat_shiftLeft, Nat.shiftLeft_eq]
theorem U_shr (x : BitVec 64) (k : Nat) : U x / 2 ^ k = U (x >>> k) := by
  unfold U
  rw [BitVec.toNat_ushiftRight, Nat.shiftRight_eq_div_pow, Int.natCast_ediv, Int.natCast_pow]
  rfl
theorem U_ite (c : Bool) (x y : BitVec 64) : (if c then U x else U y) = U (if c then x else y) := by cases c <;> rfl
end Go.Proofs.YtmbiolhecheplaaDoor
