/-
  shown of layer 8, the document's examples: it returns true. Condition: the table of math/bits lies as the text lays it; what was there stays as it is.
-/
import Derived.Test.YtldjemekncfmeaaDoorNew
import Derived.Below
namespace Go.Proofs.YtldjemekncfmeaaDoor
open Go.RowKit

theorem U_of_wf {n : Int} (h : (Lit.int .u64 n).wf = true) : ∃ x, n = U x := by
  have hb : 0 ≤ n ∧ n < 18446744073709551616 := by
    simp [Lit.wf, IntKind.min, IntKind.max, IntKind.signed, IntKind.bits] at h; omega
  exact ⟨_, U_of n hb.1 hb.2⟩
def TrueIs (w : World) (e : Ending) (w' : World) : Prop := e = .returned (.bool true) ∧ Below w.heap.size w w'
/-- a call that draws: what stays -/
theorem below_drewN {B : Nat} {a w : World} (h : Below B a w) (n : Nat) : Below B a (w.drewN n) := belowN h n

/-- the bits of the example -/
def exF : Nat → Bool := bitF (fun _ => 11#64) 6
theorem ex_new (A : Option Addr) (cp : Nat) (w : World) (hs : IS w A 1 (fun _ => .int .u64 11)) :
    Calls Tryd.prog 11 #[.slice A 1 cp, .int .i64 6] w fun e w' => ∃ g, e = .returned (.pointer (some ⟨g, 0, none⟩)) ∧ Vec w' (some ⟨g, 0, none⟩) 6 exF ∧ Below w.heap.size w w' := by
  have h := new_any A 1 cp (fun _ => 11#64) 6 w hs (by omega)
  rw [show clip 6 1 = 6 from rfl] at h
  exact h
theorem ex_close0 : closeI exF 6 0 = 5 := by decide +kernel
theorem ex_close1 : closeI exF 6 1 = 2 := by decide +kernel
theorem ex_encl : enclI exF 6 3 = 0 := by decide +kernel
theorem ex_size : sizeI exF 6 0 = 3 := by decide +kernel
theorem ex_child : childI exF 6 0 1 = 3 := by decide +kernel
theorem ex_sel : selI exF 6 2 = 3 := by decide +kernel
theorem ex_ex : exI exF 6 2 = 2 := by decide +kernel
theorem ex_lit (w : World) : IS (w.alloc (.cells #[.int .u64 11] 27 (0, 0))) (some ⟨w.heap.size, 0, none⟩) 1 (fun _ => .int .u64 11) := by
  refine .inr ⟨_, _, rfl, fun i hi => ?_⟩
  obtain rfl : i = 0 := by omega
  rw [Nat.zero_add, World.cell?_alloc_mark]
  rfl

set_option maxHeartbeats 2000000 in
theorem shown_any (w : World) (hT : Tab w) : Calls Tryd.prog 9 #[] w (TrueIs w) := by
  have HT := Lib.hid hT
  clear hT
  go_enter Tryd.func9, Tryd.ntmps9
  go_wp2_with fail
  refine (ex_new _ _ _ (ex_lit _)).mono ?_
  rintro e w1 ⟨g, rfl, hv, hb⟩
  have HV := Lib.hid hv
  have hb1 : Below w.heap.size w w1 := ((Below.refl _ _).alloc (Nat.le_refl _) _).trans (hb.mono (by simp))
  have HB := Lib.hid hb1
  have HT1 := Lib.hid (HT.out.below hb1)
  clear hb hv hb1
  go_wp2_with fail
  refine (len_any _ 6 exF _ HV.out).mono ?_
  rintro e w' ⟨rfl, rfl⟩
  go_wp2_with fail
  refine (close_any _ 6 exF 0 _ HV.out).mono ?_
  rintro e w' ⟨rfl, m0, rfl⟩
  rw [ex_close0]
  go_wp2_with fail
  refine (close_any _ 6 exF 1 _ (HV.out.drewN _)).mono ?_
  rintro e w' ⟨rfl, m1, rfl⟩
  rw [ex_close1]
  go_wp2_with fail
  refine (enclose_any _ 6 exF 3 _ (HV.out.drewN _)).mono ?_
  rintro e w' ⟨rfl, m2, rfl⟩
  rw [ex_encl]
  go_wp2_with fail
  refine (size_any _ 6 exF 0 _ (HV.out.drewN _)).mono ?_
  rintro e w' ⟨rfl, m3, rfl⟩
  rw [ex_size]
  go_wp2_with fail
  refine (child_any _ 6 exF 0 1 _ (HV.out.drewN _) ⟨by decide⟩).mono ?_
  rintro e w' ⟨rfl, m4, rfl⟩
  rw [ex_child]
  go_wp2_with fail
  refine (select_any _ 6 exF 2 _ (HV.out.drewN _) (HT1.out.drewN _)).mono ?_
  rintro e w' ⟨rfl, m5, rfl⟩
  rw [ex_sel]
  go_wp2_with fail
  refine (excess_any _ 6 exF 2 _ (HV.out.drewN _)).mono ?_
  rintro e w' ⟨rfl, m6, rfl⟩
  rw [ex_ex]
  go_wp2
  try rw [Exit.noGoto_ret]
  go_ret
  exact ⟨rfl, belowN HB.out _⟩
end Go.Proofs.YtldjemekncfmeaaDoor
