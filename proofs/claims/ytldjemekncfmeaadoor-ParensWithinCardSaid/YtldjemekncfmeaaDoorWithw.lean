/-
  The law ParensWithin: its walk. It returns true, at every argument; what was there stays as it is.
-/
import Derived.Test.YtldjemekncfmeaaDoorRd
namespace Go.Proofs.YtldjemekncfmeaaDoor
open Go.RowKit

set_option maxRecDepth 100000 in
set_option maxHeartbeats 2000000 in
theorem within_law (w : World) (hT : Tab w) (A : Option Addr) (l cp : Nat) (ys : Nat → BitVec 64) (hs : IS w A l (fun i => .int .u64 (U (ys i)))) (hl : l ≤ 17592186044416) (n : Int) (_hn : (Lit.int .i64 n).wf = true) (i : Int) (_hi : (Lit.int .i64 i).wf = true) (k : Int) (hk : (Lit.int .i64 k).wf = true) :
    Calls Tryd.prog 5 #[.slice A l cp, .int .i64 n, .int .i64 i, .int .i64 k] w (TrueIs w) := by
  have HT := Lib.hid hT
  have HS := Lib.hid hs
  have HK := Lib.hid (fits_of hk)
  clear hT hs _hn _hi hk
  go_enter Tryd.func5, Tryd.ntmps5
  go_wp2_with fail
  refine (shown_any _ HT.out).mono ?_
  rintro e w1 ⟨rfl, hb1⟩
  have HB1 := Lib.hid hb1
  clear hb1
  by_cases hgr : 12 < l
  · have hd : decide (12 < l) = true := by simp [hgr]
    go_wp2_with fail
    refine (great_any _ _ _ _).mono ?_
    rintro e w2 ⟨rfl, rfl⟩
    rw [hd]
    go_wp2
    try rw [Exit.noGoto_ret]
    go_ret
    exact ⟨rfl, HB1.out⟩
  have hd : decide (12 < l) = false := by simp [hgr]
  have hnew := new_any A l cp ys n _ (HS.out.keep fun a _ e => (HB1.out.cell (p := a) (World.block_lt_of_cell? _ _ e)).trans e) hl
  have hmake : ∀ W : World, Below w.heap.size w W → Calls Tryd.prog 12 #[.slice A l cp, .int .i64 n] W (MakeIs (bitF ys (clip n l)) (clip n l) W) :=
    fun W hW => make_any A l cp ys n W (HS.out.keep fun a _ e => (hW.cell (p := a) (World.block_lt_of_cell? _ _ e)).trans e) (by omega)
  have hN := great_size (n := n) (l := l) (by omega)
  generalize clip n l = N at *
  have HNEW := Lib.hid hnew
  have HMAKE := Lib.hid hmake
  clear hnew hmake
  go_wp2_with fail
  refine (great_any _ _ _ _).mono ?_
  rintro e w2 ⟨rfl, rfl⟩
  rw [hd]
  go_wp2_with fail
  refine HNEW.out.mono ?_
  rintro e w2 ⟨g, rfl, hv, hb2⟩
  generalize bitF ys N = f at *
  have HV := Lib.hid hv
  have hb3 : Below w.heap.size w w2 := HB1.out.trans (hb2.mono HB1.out.size)
  have HB2 := Lib.hid hb3
  clear hb2 hb3 hv hd hgr
  go_wp2_with fail
  refine (HMAKE.out _ HB2.out).mono ?_
  rintro e w3 ⟨A', cp', rfl, hr, hb3⟩
  have HR := Lib.hid hr
  have HV3 := Lib.hid (HV.out.below hb3)
  have hb4 : Below w.heap.size w w3 := HB2.out.trans (hb3.mono HB2.out.size)
  have HB3 := Lib.hid hb4
  clear hr hb3 hb4 HV HB2 HB1 HNEW HMAKE
  go_wp2_with fail
  refine (enclose_any _ N f _ _ HV3.out).mono ?_
  rintro e w' ⟨rfl, m1, rfl⟩
  go_wp2_with fail
  refine (renclose_any _ N _ f _ _ (HR.out.drewN _) (by omega)).mono ?_
  rintro e w4 ⟨rfl, hb4⟩
  have hb0 : Below w3.heap.size w3 w4 := (belowN (Below.refl _ _) m1).trans (hb4.mono (by simp [World.drewN]))
  have HV4 := Lib.hid (HV3.out.below hb0)
  have hr4 : BL w4 A' N f := HR.out.keep fun a _ e => (hb0.cell (p := a) (World.block_lt_of_cell? _ _ e)).trans e
  have HR4 := Lib.hid hr4
  have HB4 := Lib.hid (HB3.out.trans (hb0.mono HB3.out.size))
  clear hb4 hb0 hr4
  generalize enclI f N i = EI
  go_wp2_with fail
  refine (size_any _ N f _ _ HV4.out).mono ?_
  rintro e w' ⟨rfl, m2, rfl⟩
  go_wp2_with fail
  refine (rsize_any _ N _ f _ _ (HR4.out.drewN _) hN).mono ?_
  rintro e w' ⟨rfl, m3, rfl⟩
  generalize sizeI f N i = SI
  go_wp2_with fail
  refine (child_any _ N f _ _ _ (HV4.out.drewN _) HK.out).mono ?_
  rintro e w' ⟨rfl, m4, rfl⟩
  go_wp2_with fail
  refine (rchild_any _ N _ f _ _ _ (HR4.out.drewN _) hN HK.out).mono ?_
  rintro e w5 ⟨rfl, hb5⟩
  have HB5 := Lib.hid ((belowN HB4.out _).trans (hb5.mono HB4.out.size))
  clear hb5
  generalize childI f N i k = CI
  go_wp2
  try rw [Exit.noGoto_ret]
  go_ret
  exact ⟨rfl, HB5.out⟩
end Go.Proofs.YtldjemekncfmeaaDoor
