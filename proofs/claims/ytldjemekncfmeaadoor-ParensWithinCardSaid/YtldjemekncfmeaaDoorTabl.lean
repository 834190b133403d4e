/-
  What the rows' list gives: the table of math/bits lies as the text lays it; the arguments' words and ints; a world for the witness.
-/
import Derived.Test.YtldjemekncfmeaaDoorCards
import Derived.Test.YtldjemekncfmeaaDoorTie
import Derived.Test.YtldjemekncfmeaaDoorShp
import Derived.WalkKit
import Derived.ProofKit
import Derived.OpenShut
import Derived.SizedLaws
import Derived.Deep.DeepHandedRow
import Derived.Lib.LaidTab
import Derived.Lib.SmallJoins
import Derived.ChangeOld
namespace Go.Proofs.YtldjemekncfmeaaDoor
open Go.ChangeShapes Go.WideShapes Go.ChangeAt Go.RowKit Go.Joins

theorem own : ownKnob Tryd.prog.godebug = none := by kernel_rfl
theorem laidOut : laidOutB Tryd.prog = true := by kernel_rfl
theorem gTabType : (Tryd.prog.globals[tabG]?).map (·.type) = some 47 := by kernel_rfl
theorem cellsTab : Tryd.prog.cellsOf 47 = 64 := by kernel_rfl
theorem cellsByte : Tryd.prog.cellsOf 5 = 1 := by kernel_rfl

/-- the table's numbers -/
def tabZ : List Int := [0, 1, 56, 2, 57, 49, 28, 3, 61, 58, 42, 50, 38, 29, 17, 4, 62, 47, 59, 36, 45, 43, 51, 22, 53, 39, 33, 30, 24, 18, 12, 5, 63, 55, 48, 27, 60, 41, 37, 16, 46, 35, 44, 21, 52, 32, 23, 11, 54, 26, 40, 15, 34, 20, 31, 10, 25, 14, 19, 9, 13, 8, 7, 6]
theorem tabZ_is : ∀ j, j < 64 → tabZ.getD j 0 = ((Lib.deBruijn64tab.getD j 0 : Nat) : Int) := by decide +kernel
theorem tab_of {W : World} (h : laidMetH Tryd.prog [("math/bits.deBruijn64tab", Rows.laid_math_bits_deBruijn64tab)] W) : Tab W := by
  have ht : Lib.TabIs Tryd.prog W "math/bits.deBruijn64tab" .u8 tabZ := Lib.tabIs_of_head (rest := []) gTab gTabType Tryd.underlying47 Tryd.underlying5 cellsByte cellsTab h
  refine ⟨fun j hj => ?_⟩
  have hj' : j < 64 := hj
  rw [← tabZ_is j hj']
  exact ht.cell gTab j hj'

/-- a world for the witness: the settled one, the table laid -/
noncomputable def laidWorld (os : Os) : World :=
  { World.holding Tryd.prog os ⟨#[], #[], []⟩ with heap := (World.holding Tryd.prog os ⟨#[], #[], []⟩).heap.modify 0 fun
      | .cells _ t frozen => .cells (tabZ.map fun z => Value.int .u8 z).toArray t frozen
      | o => o }

theorem words_of {zs : List Int} (hw : ∀ n ∈ zs, (Lit.int .u64 n).wf = true) (i : Nat) (hi : i < zs.length) : zs.getD i 0 = U (BitVec.ofNat 64 (zs.getD i 0).toNat) := by
  have hm : zs.getD i 0 ∈ zs := by
    rw [List.getD_eq_getElem?_getD, List.getElem?_eq_getElem hi]
    exact List.getElem_mem hi
  have h := hw _ hm
  have hb : 0 ≤ zs.getD i 0 ∧ zs.getD i 0 < 18446744073709551616 := by
    generalize zs.getD i 0 = n at h
    simp [Lit.wf, IntKind.min, IntKind.max, IntKind.signed, IntKind.bits] at h; omega
  exact U_of _ hb.1 hb.2
theorem fits_of {k : Int} (h : (Lit.int .i64 k).wf = true) : Fits63 k := by
  refine ⟨?_⟩
  simp [Lit.wf, IntKind.min, IntKind.max, IntKind.signed, IntKind.bits] at h; omega
theorem i64_lo {k : Int} (h : (Lit.int .i64 k).wf = true) : -9223372036854775808 ≤ k := by
  simp [Lit.wf, IntKind.min, IntKind.max, IntKind.signed, IntKind.bits] at h; omega

/-- great: are there more bits than are looked at? -/
theorem great_any (A : Option Addr) (l cp : Nat) (w : World) : Calls Tryd.prog 10 #[.slice A l cp] w fun e w' => e = .returned (.bool (decide (12 < l))) ∧ w = w' := by
  by_cases h : 12 < l
  · have hi : (12 : Int) < l := by omega
    have hd : decide (12 < l) = true := by simp [h]
    rw [hd]
    clear hd
    go_enter Tryd.func10, Tryd.ntmps10
    go_wp2
    go_ret
    exact ⟨rfl, rfl⟩
  · have hi : ¬ (12 : Int) < l := by omega
    have hd : decide (12 < l) = false := by simp [h]
    rw [hd]
    clear hd
    go_enter Tryd.func10, Tryd.ntmps10
    go_wp2
    go_ret
    exact ⟨rfl, rfl⟩
end Go.Proofs.YtldjemekncfmeaaDoor
