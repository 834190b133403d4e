/-
  The lowest ones of a word taken off; the lowest one's place: math/bits.TrailingZeros64 under its table. For every word.
-/
import Derived.Test.YtmbiolhecheplaaDoorProg
import Derived.Test.YtmbiolhecheplaaDoorU
import Derived.Test.YtmbiolhecheplaaDoorBlk
import Derived.Test.YtmbiolhecheplaaDoorPar
import Derived.WalkKit
import Derived.WalkSpells
import Derived.WalkLawsBesides
import Derived.Lib.Hide
import Derived.Shelf.Spec.TrailingZeros
import Derived.Lib.LaidTab
namespace Go.Proofs.YtmbiolhecheplaaDoor
open Go.RowKit

/-! ### The lowest one taken off -/
theorem sub1_bit (y : BitVec 64) : ∀ i, i ≤ 64 → BitVec.carry i y (BitVec.allOnes 64) false = decide (0 < Lp.cnt y.getLsbD i) := by
  intro i
  induction i with
  | zero => intro _; simp [BitVec.carry, Lp.cnt]; omega
  | succ i ih =>
    intro hi
    have e : (BitVec.allOnes 64).getLsbD i = true := by rw [BitVec.getLsbD_allOnes]; simp; omega
    rw [BitVec.carry_succ, ih (by omega), e, Lp.cnt]
    cases y.getLsbD i
    · simp [Bool.atLeastTwo]
    · simp [Bool.atLeastTwo]
theorem clear_low (y : BitVec 64) (i : Nat) (hi : i < 64) : (y &&& (y - 1#64)).getLsbD i = (y.getLsbD i && decide (0 < Lp.cnt y.getLsbD i)) := by
  have e0 : y - 1#64 = y + BitVec.allOnes 64 := by
    rw [BitVec.sub_eq_add_neg]
    congr 1
  have e : (BitVec.allOnes 64).getLsbD i = true := by rw [BitVec.getLsbD_allOnes]; simp; omega
  rw [BitVec.getLsbD_and, e0, BitVec.getLsbD_add hi, e, sub1_bit y i (by omega)]
  cases y.getLsbD i <;> simp

/-- y is x, its t lowest ones taken off -/
def Off (x y : BitVec 64) (t : Nat) : Prop := ∀ i, i < 64 → y.getLsbD i = (x.getLsbD i && decide (t ≤ Lp.cnt x.getLsbD i))
theorem off_zero (x : BitVec 64) : Off x x 0 := fun i _ => by simp
theorem off_cnt {x y : BitVec 64} {t : Nat} (h : Off x y t) : ∀ i, i ≤ 64 → Lp.cnt y.getLsbD i = Lp.cnt x.getLsbD i - t := by
  intro i
  induction i with
  | zero => intro _; simp [Lp.cnt]
  | succ i ih =>
    intro hi
    rw [Lp.cnt, Lp.cnt, ih (by omega), h i (by omega)]
    cases x.getLsbD i
    · simp
    · by_cases ht : t ≤ Lp.cnt x.getLsbD i
      · simp [ht]; omega
      · simp [ht]; omega
theorem off_next {x y : BitVec 64} {t : Nat} (h : Off x y t) : Off x (y &&& (y - 1#64)) (t + 1) := fun i hi => by
  rw [clear_low y i hi, h i hi, off_cnt h i (by omega)]
  cases x.getLsbD i
  · simp
  · by_cases ht : t ≤ Lp.cnt x.getLsbD i
    · simp [ht]; omega
    · simp [ht]; omega

/-! ### The lowest one's place -/
theorem ctzFrom_low : ∀ (f x : Nat), 0 < x → x < 2 ^ f → x.testBit (Lib.ctzFrom f x) = true ∧ ∀ j, j < Lib.ctzFrom f x → x.testBit j = false
  | 0, x, h0, h => by simp at h; omega
  | f + 1, x, h0, h => by
    unfold Lib.ctzFrom
    split
    · rename_i h1
      exact ⟨by simp [Nat.testBit_zero, h1], fun j hj => by omega⟩
    · rename_i h1
      have hx : x / 2 < 2 ^ f := by rw [Nat.pow_succ] at h; omega
      obtain ⟨a, b⟩ := ctzFrom_low f (x / 2) (by omega) hx
      refine ⟨by rw [Nat.add_comm, Nat.testBit_succ]; exact a, fun j hj => ?_⟩
      rcases j with _ | j
      · simp [Nat.testBit_zero]; omega
      · rw [Nat.testBit_succ]; exact b j (by omega)
/-- the place of the lowest one (64 if none) -/
def low (y : BitVec 64) : Nat := Lib.ctz 64 y.toNat
theorem low_is (y : BitVec 64) (h : 0 < Lp.cnt y.getLsbD 64) : low y < 64 ∧ y.getLsbD (low y) = true ∧ Lp.cnt y.getLsbD (low y) = 0 := by
  have h0 : y.toNat ≠ 0 := by
    intro e
    have : ∀ i, Lp.cnt y.getLsbD i = 0 := by
      intro i
      induction i with
      | zero => rfl
      | succ i ih => rw [Lp.cnt, ih]; simp [BitVec.getLsbD, e]
    rw [this] at h; omega
  obtain ⟨_, hlt⟩ := Lib.lowest_bit 64 y.toNat h0 y.isLt
  have e : low y = Lib.ctzFrom 64 y.toNat := by unfold low Lib.ctz; rw [if_neg h0]
  obtain ⟨a, b⟩ := ctzFrom_low 64 y.toNat (by omega) y.isLt
  rw [← e] at a b
  refine ⟨hlt, a, ?_⟩
  have : ∀ i, i ≤ low y → Lp.cnt y.getLsbD i = 0 := by
    intro i
    induction i with
    | zero => intro _; rfl
    | succ i ih => intro hi; rw [Lp.cnt, ih (by omega)]; simp [BitVec.getLsbD, b i (by omega)]
  exact this _ (Nat.le_refl _)
/-- the table's block -/
def tabG : Nat := 0
theorem gTab : Tryd.prog.globalNamed "math/bits.deBruijn64tab" = some tabG := by kernel_rfl
/-- the table lies where the program's text lays it -/
structure Tab (w : World) : Prop where
  out : TabAt tabG Lib.deBruijn64tab w
theorem Tab.keep {w w' : World} (h : Tab w) (hk : ∀ a v, w.cell? a = some v → w'.cell? a = some v) : Tab w' := ⟨fun j hj => hk _ _ (h.out j hj)⟩
theorem Tab.drewN {w : World} (h : Tab w) (k : Nat) : Tab (w.drewN k) := h.keep fun _ _ e => e
theorem Tab.below {w w' : World} (h : Tab w) (hb : Below w.heap.size w w') : Tab w' := h.keep fun a _ e => (hb.cell (p := a) (World.block_lt_of_cell? _ _ e)).trans e

set_option maxHeartbeats 1000000 in
theorem tz_core (x k idx : Nat) (w : World) (hx0 : ((x : Int) == 0) = false)
    (key : IntKind.u64.wrap (bits BinOp.and IntKind.u64 (x : Int) (IntKind.u64.wrap (-(x : Int))) * 285870213051353865) / 288230376151711744 = (idx : Int))
    (hi : idx < 64) (hk : k < 64) (hcell : w.cell? ⟨tabG, idx, none⟩ = some (.int .u8 k)) :
    Calls Tryd.prog 27 #[.int .u64 x] w fun e w' => e = .returned (.int .i64 k) ∧ w = w' := by
  unfold tabG at hcell
  go_enter Tryd.func27, Tryd.ntmps27
  go_wp2_with (simp only [key])
  go_ret
  exact ⟨rfl, rfl⟩
theorem tz_any (y : BitVec 64) (w : World) (hT : Tab w) (h : 0 < Lp.cnt y.getLsbD 64) :
    Calls Tryd.prog 27 #[.int .u64 (U y)] w fun e w' => e = .returned (.int .i64 (low y)) ∧ w = w' := by
  have h0 : y.toNat ≠ 0 := by
    intro e
    have := (low_is y h).2.1
    simp [BitVec.getLsbD, e] at this
  obtain ⟨hlow, hk⟩ := Lib.lowest_bit 64 y.toNat h0 y.isLt
  obtain ⟨hi, htab⟩ := Lib.deBruijn64_at _ hk
  have hcell := hT.out _ hi
  rw [htab] at hcell
  exact tz_core y.toNat (low y) _ w (by simp; omega) (tz64_key _ _ y.isLt h0 hlow) hi hk hcell

end Go.Proofs.YtmbiolhecheplaaDoor
