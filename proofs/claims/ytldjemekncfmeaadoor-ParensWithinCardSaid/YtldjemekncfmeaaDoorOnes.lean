/-
  math/bits.OnesCount64: how many ones a mask has. For every mask; nothing is written.
-/
import Derived.Test.YtldjemekncfmeaaDoorHas
import Derived.Test.YtldjemekncfmeaaDoorPop
namespace Go.Proofs.YtldjemekncfmeaaDoor
open Go.RowKit
theorem U_shr1 (x : BitVec 64) : U x / (2 : Int) = U (x >>> 1) := U_shr x 1
theorem U_shr2 (x : BitVec 64) : U x / (4 : Int) = U (x >>> 2) := U_shr x 2
theorem U_shr4 (x : BitVec 64) : U x / (16 : Int) = U (x >>> 4) := U_shr x 4
theorem U_shr8 (x : BitVec 64) : U x / (256 : Int) = U (x >>> 8) := U_shr x 8
theorem U_shr16 (x : BitVec 64) : U x / (65536 : Int) = U (x >>> 16) := U_shr x 16
theorem U_shr32 (x : BitVec 64) : U x / (4294967296 : Int) = U (x >>> 32) := U_shr x 32
theorem U_m0 (x : BitVec 64) : bits .and .u64 (U x) 6148914691236517205 = U (x &&& Lp.pM0) := by
  have h := U_and x Lp.pM0
  rwa [show U Lp.pM0 = 6148914691236517205 from by unfold U Lp.pM0; rfl] at h
theorem U_m1 (x : BitVec 64) : bits .and .u64 (U x) 3689348814741910323 = U (x &&& Lp.pM1) := by
  have h := U_and x Lp.pM1
  rwa [show U Lp.pM1 = 3689348814741910323 from by unfold U Lp.pM1; rfl] at h
theorem U_m2 (x : BitVec 64) : bits .and .u64 (U x) 1085102592571150095 = U (x &&& Lp.pM2) := by
  have h := U_and x Lp.pM2
  rwa [show U Lp.pM2 = 1085102592571150095 from by unfold U Lp.pM2; rfl] at h
theorem p1_def (x : BitVec 64) : ((x >>> 1) &&& Lp.pM0) + (x &&& Lp.pM0) = Lp.pop1 x := rfl
theorem p2_def (x : BitVec 64) : ((x >>> 2) &&& Lp.pM1) + (x &&& Lp.pM1) = Lp.pop2 x := rfl
theorem p3_def (x : BitVec 64) : ((x >>> 4) + x) &&& Lp.pM2 = Lp.pop3 x := rfl
theorem p4_def (x : BitVec 64) : x + (x >>> 8) = Lp.pop4 x := rfl
theorem p5_def (x : BitVec 64) : x + (x >>> 16) = Lp.pop5 x := rfl
theorem p6_def (x : BitVec 64) : x + (x >>> 32) = Lp.pop6 x := rfl
theorem and127 (a : Nat) (ha : a < 18446744073709551616) : bits .and .i64 (IntKind.i64.wrap (a : Int)) 127 = ((a % 128 : Nat) : Int) := by
  show IntKind.i64.wrap ((BitVec.ofInt 64 (IntKind.i64.wrap (a : Int)) &&& BitVec.ofInt 64 127).toNat : Int) = _
  have e : (BitVec.ofInt 64 (IntKind.i64.wrap (a : Int))).toNat = a := by
    rw [BitVec.toNat_ofInt, IntKind.wrap_i64]; omega
  have e2 : (BitVec.ofInt 64 127).toNat = 127 := by decide
  rw [BitVec.toNat_and, e, e2, show (127 : Nat) = 2 ^ 7 - 1 from rfl, Nat.and_two_pow_sub_one_eq_mod, IntKind.wrap_i64]
  omega
theorem ones_end (x : BitVec 64) : bits .and .i64 (IntKind.i64.wrap (U (Lp.popS x))) 127 = (Lp.cnt x.getLsbD 64 : Int) := by
  unfold U
  rw [and127 _ (Lp.popS x).isLt, Lp.popS_cnt]

def OnesIs (x : BitVec 64) (w : World) (e : Ending) (w' : World) : Prop := e = .returned (.int .i64 (Lp.cnt x.getLsbD 64)) ∧ w = w'
attribute [local go_sem] U_shr1 U_shr2 U_shr4 U_shr8 U_shr16 U_shr32 U_m0 U_m1 U_m2 U_add p1_def p2_def p3_def p4_def p5_def p6_def
set_option maxHeartbeats 400000 in
theorem ones_any (x : BitVec 64) (w : World) : Calls Tryd.prog 33 #[.int .u64 (U x)] w (OnesIs x w) := by
  go_enter Tryd.func33, Tryd.ntmps33
  go_wp2
  go_ret
  refine ⟨ret_i ?_, rfl⟩
  rw [← ones_end, IntWalk.i64_left]
  rfl
end Go.Proofs.YtldjemekncfmeaaDoor
