/-
  The reference's Bits, Prefix, Escaped, Inside: what each call returns. For every mask and all bytes; nothing is written.
-/
import Derived.Test.YtmbiolhecheplaaRefa
namespace Go.Proofs.Ytmbiolhecheplaa
open Go.RowKit

/-- A []byte of n bytes g: nil or not; the cells behind it. -/
def BS (w : World) (A : Option Addr) (n : Nat) (g : Nat → Int) : Prop := n = 0 ∨ ∃ b off, A = some ⟨b, off, none⟩ ∧ ∀ i, i < n → w.cell? ⟨b, off + i, none⟩ = some (.int .u8 (g i))

theorem ret_u64b {a b : BitVec 64} {c d : Bool} (h : a = b) (h' : c = d) : Ending.returned (.tuple #[.int .u64 (U a), .bool c]) = .returned (.tuple #[.int .u64 (U b), .bool d]) := by rw [h, h']

set_option maxHeartbeats 400000 in
theorem rbits_any (A : Option Addr) (n cp : Nat) (g : Nat → Int) (c : Int) (w : World) (hb : BS w A n g) :
    Calls Try.prog 13 #[.slice A n cp, .int .u8 c] w fun e w' => e = .returned (.int .u64 (U (Lo.bitsM (min 64 n) g c))) ∧ w = w' := by
  rcases hb with rfl | ⟨b, off, rfl, hc⟩
  · go_enter Try.func13, Try.ntmps13
    go_wp2
    go_loop [5, 6] (fun p k => k = .int .i64 0 ∧ p = .int .u64 0) (fun _ _ => 0)
    case atStart => exact ⟨rfl, rfl⟩
    case round =>
      obtain ⟨rfl, rfl⟩ := hrel
      go_wp2
      go_ret
      exact ⟨rfl, rfl⟩
  · have HC := Lib.hid hc
    clear hc
    go_enter Try.func13, Try.ntmps13
    go_wp2
    go_loop [5, 6] (fun p k => ∃ j : Nat, j ≤ 64 ∧ j ≤ n ∧ k = .int .i64 j ∧ p = .int .u64 (U (Lo.mk j fun i => g i == c))) (fun _ k => 64 - (intOf k).toNat)
    case atStart => exact ⟨0, Nat.zero_le _, Nat.zero_le _, rfl, rfl⟩
    case round =>
      obtain ⟨j, hj, hjn, rfl, rfl⟩ := hrel
      by_cases h64 : j < 64
      · by_cases hlt : j < n
        · have hcell := HC.out j hlt
          go_wp2_with (go_at_call 22; refine (with_mk j h64 _ _ rfl _).mono ?_; rintro e w' ⟨rfl, rfl⟩)
          go_round
          case rel => exact ⟨j + 1, by omega, by omega, by go_num, rfl⟩
          case measure => simp [intOf]; omega
        · go_wp2
          go_ret
          exact ⟨ret_u64 (by rw [Lo.bitsM, show min 64 n = j from by omega]), rfl⟩
      · go_wp2
        go_ret
        exact ⟨ret_u64 (by rw [Lo.bitsM, show min 64 n = j from by omega]), rfl⟩

set_option maxHeartbeats 400000 in
theorem rprefix_any (x : BitVec 64) (w : World) :
    Calls Try.prog 15 #[.int .u64 (U x)] w fun e w' => e = .returned (.int .u64 (U (Lo.pre x))) ∧ w = w' := by
  go_enter Try.func15, Try.ntmps15
  go_wp2
  go_loop [3, 4, 5] (fun p o k => ∃ j : Nat, j ≤ 64 ∧ k = .int .i64 j ∧ o = .bool (Lo.par x.getLsbD j) ∧ p = .int .u64 (U (Lo.mk j fun i => Lo.par x.getLsbD (i + 1)))) (fun _ _ k => 64 - (intOf k).toNat)
  case atStart => exact ⟨0, Nat.zero_le _, rfl, rfl, rfl⟩
  case round =>
    obtain ⟨j, hj, rfl, rfl, rfl⟩ := hrel
    by_cases hlt : j < 64
    · generalize hp : Lo.par x.getLsbD j = p
      generalize hq : x.getLsbD j = q
      have HP := Lib.hid hp
      have HQ := Lib.hid hq
      clear hp hq
      have hw : ∀ W : World, Calls Try.prog 22 #[.int .u64 (U (Lo.mk j fun i => Lo.par x.getLsbD (i + 1))), .int .i64 j, .bool (p ^^ q)] W fun e w' => e = .returned (.int .u64 (U (Lo.mk (j + 1) fun i => Lo.par x.getLsbD (i + 1)))) ∧ W = w' := fun W => with_mk j hlt _ _ (by show (p ^^ q) = (Lo.par x.getLsbD j ^^ x.getLsbD j); rw [HP.out, HQ.out]) W
      have HW := Lib.hid hw
      have hh : ∀ W : World, Calls Try.prog 23 #[.int .u64 (U x), .int .i64 j] W fun e w' => e = .returned (.bool q) ∧ W = w' := fun W => by rw [← HQ.out]; exact has_any x j (by omega) W
      have HH := Lib.hid hh
      clear hw hh
      have hend : Value.bool (p ^^ q) = .bool (Lo.par x.getLsbD (j + 1)) := by rw [← HP.out, ← HQ.out]; rfl
      have HE := Lib.hid hend
      clear hend
      cases p <;> cases q
      all_goals
        simp only [Bool.xor_false, Bool.xor_true, Bool.not_false, Bool.not_true] at HW HE
        go_wp2_with fail
        refine (HH.out _).mono ?_; rintro e w' ⟨rfl, rfl⟩
        go_wp2_with fail
        refine (HW.out _).mono ?_; rintro e w' ⟨rfl, rfl⟩
        go_wp2_with fail
        go_round
        case rel => exact ⟨j + 1, by omega, by go_num, HE.out, rfl⟩
        case measure => simp [intOf]; omega
    · go_wp2
      go_ret
      obtain rfl : j = 64 := by omega
      exact ⟨rfl, rfl⟩

set_option maxHeartbeats 400000 in
theorem rescaped_any (x : BitVec 64) (odd : Bool) (w : World) :
    Calls Try.prog 17 #[.int .u64 (U x), .bool odd] w fun e w' => e = .returned (.tuple #[.int .u64 (U (Lo.escD x odd)), .bool (Lo.esc x.getLsbD odd 64)]) ∧ w = w' := by
  go_enter Try.func17, Try.ntmps17
  go_wp2
  go_loop [1, 6, 7] (fun o p k => ∃ j : Nat, j ≤ 64 ∧ k = .int .i64 j ∧ o = .bool (Lo.esc x.getLsbD odd j) ∧ p = .int .u64 (U (Lo.mk j (Lo.esc x.getLsbD odd)))) (fun _ _ k => 64 - (intOf k).toNat)
  case atStart => exact ⟨0, Nat.zero_le _, rfl, rfl, rfl⟩
  case round =>
    obtain ⟨j, hj, rfl, rfl, rfl⟩ := hrel
    by_cases hlt : j < 64
    · generalize hp : Lo.esc x.getLsbD odd j = p
      have HP := Lib.hid hp
      clear hp
      have hend : Value.bool (!p && x.getLsbD j) = .bool (Lo.esc x.getLsbD odd (j + 1)) := by rw [← HP.out]; rfl
      have HE := Lib.hid hend
      clear hend
      cases p
      all_goals
        simp only [Bool.not_false, Bool.not_true, Bool.true_and, Bool.false_and] at HE
        go_wp2_with fail
        refine (with_mk j hlt _ _ HP.out.symm _).mono ?_; rintro e w' ⟨rfl, rfl⟩
        go_wp2_with (go_at_call 23; refine (has_any x j (by omega) _).mono ?_; rintro e w' ⟨rfl, rfl⟩)
        go_round
        case rel => exact ⟨j + 1, by omega, by go_num, HE.out, rfl⟩
        case measure => simp [intOf]; omega
    · go_wp2
      go_ret2
      obtain rfl : j = 64 := by omega
      exact ⟨rfl, rfl⟩

set_option maxHeartbeats 400000 in
theorem rinside_any (x : BitVec 64) (inn : Bool) (w : World) :
    Calls Try.prog 19 #[.int .u64 (U x), .bool inn] w fun e w' => e = .returned (.tuple #[.int .u64 (U (Lo.insD x inn)), .bool (inn ^^ Lo.par x.getLsbD 64)]) ∧ w = w' := by
  go_enter Try.func19, Try.ntmps19
  go_wp2
  go_loop [1, 6, 7] (fun o p k => ∃ j : Nat, j ≤ 64 ∧ k = .int .i64 j ∧ o = .bool (inn ^^ Lo.par x.getLsbD j) ∧ p = .int .u64 (U (Lo.mk j fun i => inn ^^ Lo.par x.getLsbD (i + 1)))) (fun _ _ k => 64 - (intOf k).toNat)
  case atStart => exact ⟨0, Nat.zero_le _, rfl, by simp [Lo.par], rfl⟩
  case round =>
    obtain ⟨j, hj, rfl, rfl, rfl⟩ := hrel
    by_cases hlt : j < 64
    · generalize hp : (inn ^^ Lo.par x.getLsbD j) = p
      generalize hq : x.getLsbD j = q
      have HP := Lib.hid hp
      have HQ := Lib.hid hq
      clear hp hq
      have heq : (inn ^^ Lo.par x.getLsbD (j + 1)) = (p ^^ q) := by rw [← HP.out, ← HQ.out, Lo.par]; cases inn <;> cases Lo.par x.getLsbD j <;> cases x.getLsbD j <;> rfl
      have hw : ∀ W : World, Calls Try.prog 22 #[.int .u64 (U (Lo.mk j fun i => inn ^^ Lo.par x.getLsbD (i + 1))), .int .i64 j, .bool (p ^^ q)] W fun e w' => e = .returned (.int .u64 (U (Lo.mk (j + 1) fun i => inn ^^ Lo.par x.getLsbD (i + 1)))) ∧ W = w' := fun W => with_mk j hlt _ _ heq.symm W
      have HW := Lib.hid hw
      have hh : ∀ W : World, Calls Try.prog 23 #[.int .u64 (U x), .int .i64 j] W fun e w' => e = .returned (.bool q) ∧ W = w' := fun W => by rw [← HQ.out]; exact has_any x j (by omega) W
      have HH := Lib.hid hh
      clear hw hh
      have hend : Value.bool (p ^^ q) = .bool (inn ^^ Lo.par x.getLsbD (j + 1)) := by rw [heq]
      have HE := Lib.hid hend
      clear hend heq
      cases p <;> cases q
      all_goals
        simp only [Bool.xor_false, Bool.xor_true, Bool.not_false, Bool.not_true] at HW HE
        go_wp2_with fail
        refine (HH.out _).mono ?_; rintro e w' ⟨rfl, rfl⟩
        go_wp2_with fail
        refine (HW.out _).mono ?_; rintro e w' ⟨rfl, rfl⟩
        go_wp2_with fail
        go_round
        case rel => exact ⟨j + 1, by omega, by go_num, HE.out, rfl⟩
        case measure => simp [intOf]; omega
    · go_wp2
      go_ret2
      obtain rfl : j = 64 := by omega
      exact ⟨rfl, rfl⟩
end Go.Proofs.Ytmbiolhecheplaa
