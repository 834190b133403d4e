/-
  The reference's Same: over two indexes of the same words it returns true. Nothing that was there is written. For indexes of up to 2^42 words.
-/
import Derived.Test.YtmbiolhecheplaaDoorOrd
import Derived.BigQuiet
import Derived.Deep.QuietTactic
namespace Go.Proofs.YtmbiolhecheplaaDoor
open Go.RowKit

set_option maxRecDepth 100000 in
set_option maxHeartbeats 2000000 in
theorem same_any (A1 A2 : Option Addr) (k cp1 cp2 : Nat) (mw : Nat → Nat → BitVec 64) (n : Int) (w : World) (h1 : WS w A1 k mw) (h2 : WS w A2 k mw) (hk : k ≤ 4398046511104) :
    Calls Tryd.prog 11 #[.agg #[.slice A1 k cp1, .int .i64 n], .agg #[.slice A2 k cp2, .int .i64 n]] w fun e w' => e = .returned (.bool true) ∧ Below w.heap.size w w' := by
  have H1 := Lib.hid h1
  have H2 := Lib.hid h2
  have hkI : (k : Int) ≤ 4398046511104 := by omega
  clear h1 h2
  go_enter Tryd.func11, Tryd.ntmps11
  go_wp2
  go_loopw [5] (fun s5 wr => ∃ j : Nat, s5 = .int .i64 j ∧ j ≤ k ∧ ∃ m, wr = ((w.alloc (.cells #[.slice A1 k cp1, .int .i64 n] 27)).alloc (.cells #[.slice A2 k cp2, .int .i64 n] 27)).drewN m) (fun s5 _ => k - (intOf s5).toNat)
  case atStart => exact ⟨0, rfl, Nat.zero_le _, 0, rfl⟩
  case round =>
    obtain ⟨j, rfl, hjk, m, rfl⟩ := hrel
    by_cases hlt : j < k
    · have hlI : (j : Int) < (k : Int) := by omega
      obtain ⟨b1, o1, rfl, hc1⟩ := H1.out.resolve_left (by omega)
      obtain ⟨b2, o2, rfl, hc2⟩ := H2.out.resolve_left (by omega)
      have l1 := World.block_lt_of_cell? _ _ (hc1 j hlt 0 (by omega))
      have l2 := World.block_lt_of_cell? _ _ (hc2 j hlt 0 (by omega))
      simp only at l1 l2
      have p0 : w.cell? ⟨b1, o1 + j * 7, none⟩ = some (.int .u64 (U (mw j 0))) := hc1 j hlt 0 (by omega)
      have p1 := hc1 j hlt 1 (by omega)
      have p2 := hc1 j hlt 2 (by omega)
      have p3 := hc1 j hlt 3 (by omega)
      have p4 := hc1 j hlt 4 (by omega)
      have p5 := hc1 j hlt 5 (by omega)
      have p6 := hc1 j hlt 6 (by omega)
      have q0 : w.cell? ⟨b2, o2 + j * 7, none⟩ = some (.int .u64 (U (mw j 0))) := hc2 j hlt 0 (by omega)
      have q1 := hc2 j hlt 1 (by omega)
      have q2 := hc2 j hlt 2 (by omega)
      have q3 := hc2 j hlt 3 (by omega)
      have q4 := hc2 j hlt 4 (by omega)
      have q5 := hc2 j hlt 5 (by omega)
      have q6 := hc2 j hlt 6 (by omega)
      clear hc1 hc2
      generalize mw j = mj at *
      go_wp2
      go_quiet (fail)
      go_wp2
      go_roundw
      case rel => exact ⟨j + 1, by go_num, by omega, _, rfl⟩
      case measure => simp [intOf]; omega
    · have hlI : ¬ ((j : Int) < (k : Int)) := by omega
      go_wp2
      try rw [Exit.noGoto_ret]
      go_ret
      exact ⟨rfl, belowN (((Below.refl _ _).alloc (Nat.le_refl _) _).alloc (by simp) _) _⟩
end Go.Proofs.YtmbiolhecheplaaDoor
