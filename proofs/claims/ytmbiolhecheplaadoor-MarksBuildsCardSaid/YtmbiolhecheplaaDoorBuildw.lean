/-
  The walk of MarksBuilds: the law returns true. Condition: the table of math/bits lies; what was there stays as it is.
-/
import Derived.Test.YtmbiolhecheplaaDoorShm
import Derived.Test.YtmbiolhecheplaaDoorRbuild
import Derived.Test.YtmbiolhecheplaaDoorSame
namespace Go.Proofs.YtmbiolhecheplaaDoor
open Go.RowKit

set_option maxRecDepth 100000 in
set_option maxHeartbeats 2000000 in
theorem builds_law (w : World) (hT : Tab w) (A : Option Addr) (n cp : Nat) (G : Nat → Int) (hb : BS w A n G) (hcp : n ≤ cp) (hf : cp ≤ 140737488351232) :
    Calls Tryd.prog 3 #[.slice A n cp] w (TrueIs w) := by
  have HT := Lib.hid hT
  have HB := Lib.hid hb
  clear hT hb
  go_enter Tryd.func3, Tryd.ntmps3
  go_wp2_with fail
  refine (shown_any _ HT.out).mono ?_
  rintro e w1 ⟨rfl, hb1⟩
  have HB1 := Lib.hid hb1
  clear hb1
  go_wp2_with fail
  refine (build_any A n cp G _ (HB.out.bel HB1.out) (by omega) hcp (by omega)).mono ?_
  rintro e w2 ⟨A1, cp1, rfl, _, hws1, hb2⟩
  have HB2 := Lib.hid (HB1.out.trans (hb2.mono HB1.out.size))
  have HS1 := Lib.hid hws1
  clear hws1 hb2
  go_wp2_with fail
  refine (rbuild_any A n cp G _ (HB.out.bel HB2.out) (by omega) hcp (by omega)).mono ?_
  rintro e w3 ⟨A2, cp2, rfl, _, hws2, hb3⟩
  have HB3 := Lib.hid (HB2.out.trans (hb3.mono HB2.out.size))
  have HS2 := Lib.hid hws2
  have HS3 := Lib.hid (HS1.out.below hb3)
  clear hws2 hb3
  go_wp2_with fail
  refine (same_any A1 A2 (nwords n) cp1 cp2 (mwG G n) n _ HS3.out HS2.out (by unfold nwords; omega)).mono ?_
  rintro e w4 ⟨rfl, hb4⟩
  have HB4 := Lib.hid (HB3.out.trans (hb4.mono HB3.out.size))
  clear hb4
  go_wp2
  try rw [Exit.noGoto_ret]
  go_ret
  exact ⟨rfl, HB4.out⟩
end Go.Proofs.YtmbiolhecheplaaDoor
