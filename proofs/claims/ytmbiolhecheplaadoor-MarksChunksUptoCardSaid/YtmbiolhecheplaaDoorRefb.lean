/-
  What a []byte reads as: its cells. No condition.
-/
import Derived.Test.YtmbiolhecheplaaDoorRefa
namespace Go.Proofs.YtmbiolhecheplaaDoor
open Go.RowKit

/-- A []byte of n bytes g: nil or not; the cells behind it. -/
def BS (w : World) (A : Option Addr) (n : Nat) (g : Nat → Int) : Prop := n = 0 ∨ ∃ b off, A = some ⟨b, off, none⟩ ∧ ∀ i, i < n → w.cell? ⟨b, off + i, none⟩ = some (.int .u8 (g i))

theorem ret_u64b {a b : BitVec 64} {c d : Bool} (h : a = b) (h' : c = d) : Ending.returned (.tuple #[.int .u64 (U a), .bool c]) = .returned (.tuple #[.int .u64 (U b), .bool d]) := by rw [h, h']

end Go.Proofs.YtmbiolhecheplaaDoor
