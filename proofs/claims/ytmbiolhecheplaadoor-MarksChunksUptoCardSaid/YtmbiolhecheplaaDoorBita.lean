/-
  bitmap's one, Bits, Prefix, Escaped, Inside: what each call returns. For every mask and all bytes; nothing is written.
-/
import Derived.Test.YtmbiolhecheplaaDoorRefb
namespace Go.Proofs.YtmbiolhecheplaaDoor
open Go.RowKit

theorem one_any (on : Bool) (w : World) : Calls Tryd.prog 36 #[.bool on] w fun e w' => e = .returned (.int .u64 (U (Lo.one on))) ∧ w = w' := by
  cases on
  all_goals
    go_enter Tryd.func36, Tryd.ntmps36
    go_wp2
    go_ret
    exact ⟨rfl, rfl⟩

theorem bits_step (f : Nat → Bool) (j : Nat) (hj : j < 64) (hf : f j = true) : bits .or .u64 (U (Lo.mk j f)) (IntKind.u64.wrap (2 ^ j)) = U (Lo.mk (j + 1) f) := by
  have h := U_shl 1#64 j (by omega)
  rw [U_one, Int.one_mul] at h
  rw [h, U_or]
  congr 1
  apply Lo.ext64
  intro i hi
  rw [BitVec.getLsbD_or, Lo.lsb_mk (by omega) hi, Lo.lsb_mk (by omega) hi, Lo.one_shl j i hi]
  by_cases e : i = j
  · subst e; simp [hf]
  · have : i < j + 1 ↔ i < j := by omega
    simp [e, this]

theorem shx_step (x : BitVec 64) (k : Nat) (hk : k ≤ 64) : bits .xor .u64 (U x) (IntKind.u64.wrap (U x * 2 ^ k)) = U (Lo.shx x k) := by
  rw [U_shl x k hk, U_xor]; rfl

set_option maxHeartbeats 400000 in
theorem bits_any (A : Option Addr) (n cp : Nat) (g : Nat → Int) (c : Int) (w : World) (hb : BS w A n g) (hn : n ≤ 9223372036854775807) :
    Calls Tryd.prog 33 #[.slice A n cp, .int .u8 c] w fun e w' => e = .returned (.int .u64 (U (Lo.bitsM (min 64 n) g c))) ∧ w = w' := by
  generalize hm : min 64 n = m
  have hm1 : m ≤ 64 := by omega
  have hm2 : m ≤ n := by omega
  have HB := Lib.hid hb
  clear hb
  have hs : (n < 64 ∧ n ≤ m) ∨ (¬ n < 64 ∧ 64 ≤ m) := by omega
  clear hm
  rcases hs with ⟨hs, hs2⟩ | ⟨hs, hs2⟩
  all_goals
    go_enter Tryd.func33, Tryd.ntmps33
    go_wp2
    go_loop [5, 10] (fun p k => ∃ j : Nat, j ≤ m ∧ k = .int .i64 j ∧ p = .int .u64 (U (Lo.mk j fun i => g i == c))) (fun _ k => m - (intOf k).toNat)
    case atStart => exact ⟨0, Nat.zero_le _, rfl, rfl⟩
    case round =>
      obtain ⟨j, hj, rfl, rfl⟩ := hrel
      by_cases hlt : j < m
      · obtain ⟨b, off, rfl, hc⟩ := HB.out.resolve_left (by omega)
        have hcell := hc j (by omega)
        clear hc
        by_cases hg : g j = c
        · have hgb : (g j == c) = true := by rw [hg]; simp
          have hstep := bits_step (fun i => g i == c) j (by omega) hgb
          clear hg
          go_wp2
          go_round
          case rel => exact ⟨j + 1, by omega, by go_num, rfl⟩
          case measure => simp [intOf]; omega
        · have hgb : (g j == c) = false := by simpa using hg
          have hstep : Value.int .u64 (U (Lo.mk j fun i => g i == c)) = .int .u64 (U (Lo.mk (j + 1) fun i => g i == c)) := by rw [Lo.mk, hgb]; rfl
          have HS := Lib.hid hstep
          clear hg hstep
          go_wp2
          go_round
          case rel => exact ⟨j + 1, by omega, by go_num, HS.out⟩
          case measure => simp [intOf]; omega
      · go_wp2
        go_ret
        exact ⟨ret_u64 (by rw [Lo.bitsM, show j = m from by omega]), rfl⟩

set_option maxHeartbeats 400000 in
theorem prefix_any (x : BitVec 64) (w : World) :
    Calls Tryd.prog 38 #[.int .u64 (U x)] w fun e w' => e = .returned (.int .u64 (U (Lo.pre x))) ∧ w = w' := by
  rw [← Lo.pre_eq]
  go_enter Tryd.func38, Tryd.ntmps38
  go_wp2
  go_loop [0, 4] (fun p k => ∃ j : Nat, j ≤ 6 ∧ k = .int .i64 j ∧ p = .int .u64 (U (Lo.preTo x j))) (fun _ k => 6 - (intOf k).toNat)
  case atStart => exact ⟨0, Nat.zero_le _, rfl, rfl⟩
  case round =>
    obtain ⟨j, hj, rfl, rfl⟩ := hrel
    by_cases hlt : j < 6
    · have hnext : ∀ k, k = 2 ^ j → bits .xor .u64 (U (Lo.preTo x j)) (IntKind.u64.wrap (U (Lo.preTo x j) * 2 ^ k)) = U (Lo.preTo x (j + 1)) := by
        rintro k rfl
        refine shx_step _ _ ?_
        have : j = 0 ∨ j = 1 ∨ j = 2 ∨ j = 3 ∨ j = 4 ∨ j = 5 := by omega
        rcases this with rfl | rfl | rfl | rfl | rfl | rfl <;> decide
      have HN := Lib.hid hnext
      clear hnext
      generalize Lo.preTo x j = y at *
      have : j = 0 ∨ j = 1 ∨ j = 2 ∨ j = 3 ∨ j = 4 ∨ j = 5 := by omega
      rcases this with rfl | rfl | rfl | rfl | rfl | rfl
      all_goals
        go_wp2
        go_round
        case rel => first | exact ⟨1, by omega, rfl, by have h := HN.out 1 rfl; simp only [Int.reducePow] at h; exact int_u64 h⟩ | exact ⟨2, by omega, rfl, by have h := HN.out 2 rfl; simp only [Int.reducePow] at h; exact int_u64 h⟩ | exact ⟨3, by omega, rfl, by have h := HN.out 4 rfl; simp only [Int.reducePow] at h; exact int_u64 h⟩ | exact ⟨4, by omega, rfl, by have h := HN.out 8 rfl; simp only [Int.reducePow] at h; exact int_u64 h⟩ | exact ⟨5, by omega, rfl, by have h := HN.out 16 rfl; simp only [Int.reducePow] at h; exact int_u64 h⟩ | exact ⟨6, by omega, rfl, by have h := HN.out 32 rfl; simp only [Int.reducePow] at h; exact int_u64 h⟩
        case measure => simp [intOf]
    · go_wp2
      go_ret
      obtain rfl : j = 6 := by omega
      exact ⟨rfl, rfl⟩
end Go.Proofs.YtmbiolhecheplaaDoor
