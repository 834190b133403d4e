/-
  The walk of MarksNexts: the law returns true. Condition: the table of math/bits lies; what was there stays as it is.
-/
import Derived.Test.YtmbiolhecheplaaDoorShm
import Derived.Deep.RegionHeld3
import Derived.Deep.DeepCutAuto
namespace Go.Proofs.YtmbiolhecheplaaDoor
open Go.RowKit

theorem undrew {w w' : World} (h : Below w.drew.heap.size w.drew w') : Below w.heap.size w w' := (Below.drew (Below.refl _ w)).trans h
set_option maxRecDepth 100000 in
set_option maxHeartbeats 2000000 in
theorem nexts_law (w : World) (hT : Tab w) (A : Option Addr) (k cp : Nat) (mw : Nat → Nat → BitVec 64) (hs : WS w A k mw) (hk : k ≤ 4398046511104) (n : Int) (hn : Fits63 n) (i : Int) (hi : Fits63 i) :
    Calls Tryd.prog 5 #[.agg #[.slice A k cp, .int .i64 n], .int .i64 i] w (TrueIs w) := by
  have HT := Lib.hid hT
  have HS := Lib.hid hs
  have HN := Lib.hid hn
  have HI := Lib.hid hi
  clear hT hs hn hi
  go_enter Tryd.func5, Tryd.ntmps5
  go_wp2_with fail
  have hw : Below w.heap.size w (w.alloc (.cells #[.slice A k cp, .int .i64 n] 27)) := (Below.refl _ _).alloc (Nat.le_refl _) _
  refine (shown_any _ (HT.out.below hw)).mono ?_
  rintro e w1 ⟨rfl, hb1⟩
  have hbk : Blk w1 w.heap.size 27 #[.slice A k cp, .int .i64 n] := (Blk.new _ _ _).kept hb1
  have hw1 : Below w.heap.size w w1 := hw.trans (hb1.mono (by simp))
  have x0 := hbk.cell 0
  have x1 := hbk.cell 1
  simp at x0 x1
  have hlt := hbk.lt
  have hN : ∀ W : World, Below w1.heap.size w1 W → Calls Tryd.prog 16 #[.agg #[.slice A k cp, .int .i64 n], .int .i64 i] W fun e w' => e = .returned (.int .i64 (nextI mw k n i)) ∧ Below W.heap.size W w' ∧ w'.cell? ⟨w.heap.size, 0, none⟩ = some (.slice A k cp) ∧ w'.cell? ⟨w.heap.size, 1, none⟩ = some (.int .i64 n) := fun W hW =>
    (next_any A k cp mw n i W ((HS.out.below hw1).below hW) ((HT.out.below hw1).below hW) hk HN.out HI.out).mono fun e w' hh =>
      ⟨hh.1, hh.2, (((hbk.kept hW).kept hh.2).cell 0), (((hbk.kept hW).kept hh.2).cell 1)⟩
  have hR : ∀ W : World, Below w1.heap.size w1 W → Calls Tryd.prog 17 #[.agg #[.slice A k cp, .int .i64 n], .int .i64 i] W fun e w' => e = .returned (.int .i64 (nextI mw k n i)) ∧ Below W.heap.size W w' ∧ w'.cell? ⟨w.heap.size, 0, none⟩ = some (.slice A k cp) ∧ w'.cell? ⟨w.heap.size, 1, none⟩ = some (.int .i64 n) := fun W hW =>
    (rnext_any A k cp mw n i W ((HS.out.below hw1).below hW) hk HN.out HI.out).mono fun e w' hh =>
      ⟨hh.1, hh.2, (((hbk.kept hW).kept hh.2).cell 0), (((hbk.kept hW).kept hh.2).cell 1)⟩
  have HNX := Lib.hid hN
  have HRX := Lib.hid hR
  have HW1 := Lib.hid hw1
  clear hN hR hbk hb1 hw1 hw
  generalize nextI mw k n i = r at *
  go_upto_region 2 with (fail)
  go_cut [4] (fun s4 wx => s4 = .bool true ∧ Below w1.heap.size w1 wx)
  case first =>
    go_region_held3 (fun w' => w'.cell? ⟨w.heap.size, 0, none⟩ = some (.slice A k cp) ∧ w'.cell? ⟨w.heap.size, 1, none⟩ = some (.int .i64 n)) (go_keep)
      (first | (go_at_call 16; refine (HNX.out _ ?_).mono ?_; (first | (with_reducible exact Below.drew (Below.refl _ _)) | (exact undrew hb2)); rintro e w2 ⟨rfl, hb2, s0, s1⟩) | (go_at_call 17; refine (HRX.out _ ?_).mono ?_; (first | (with_reducible exact Below.drew (Below.refl _ _)) | (exact undrew hb2)); rintro e w2 ⟨rfl, hb2, s0, s1⟩))
    all_goals
      go_wp2_with fail
      go_meet
      exact ⟨rfl, (undrew (by assumption)).trans (hb2.mono (undrew (by assumption)).size)⟩
  case rest =>
    obtain ⟨rfl, hbx⟩ := hcut
    have HBX := Lib.hid hbx
    clear hbx
    go_wp2
    try rw [Exit.noGoto_ret]
    go_ret
    exact ⟨rfl, HW1.out.trans (HBX.out.mono HW1.out.size)⟩
end Go.Proofs.YtmbiolhecheplaaDoor
