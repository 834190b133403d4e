/-
  The walk of MarksPlaces: the law returns true, over texts of up to 2^20 bytes. Condition: the table of math/bits lies; what was there stays as it is.
-/
import Derived.Test.YtmbiolhecheplaaDoorShm
import Derived.Test.YtmbiolhecheplaaDoorRmarks
import Derived.BigQuiet
import Derived.Deep.QuietTactic
namespace Go.Proofs.YtmbiolhecheplaaDoor
open Go.RowKit

set_option maxRecDepth 100000 in
set_option maxHeartbeats 2000000 in
theorem places_law (w : World) (hT : Tab w) (A : Option Addr) (n cp : Nat) (G : Nat → Int) (hb : BS w A n G) (hcp : n ≤ cp) (hf : cp ≤ 1048576) :
    Calls Tryd.prog 4 #[.slice A n cp] w (TrueIs w) := by
  have HT := Lib.hid hT
  have HB := Lib.hid hb
  clear hT hb
  go_enter Tryd.func4, Tryd.ntmps4
  go_wp2_with fail
  refine (shown_any _ HT.out).mono ?_
  rintro e w1 ⟨rfl, hb1⟩
  have HB1 := Lib.hid hb1
  clear hb1
  go_wp2_with fail
  refine (marks_any A n cp G _ (HB.out.bel HB1.out) (by omega) hcp (by omega)).mono ?_
  rintro e w2 ⟨v2, rfl, hown, hb2⟩
  obtain ⟨Am, cpm, rfl⟩ := own_slice hown
  have HB2 := Lib.hid (HB1.out.trans (hb2.mono HB1.out.size))
  have HC2 : Hid (0 < (Lm.ml G n).length → ∃ g, Am = some ⟨g, 0, none⟩ ∧ ∀ j u, (Lm.cells (Lm.ml G n))[j]? = some u → w2.cell? ⟨g, j, none⟩ = some u) := Lib.hid fun h => by
    obtain ⟨g, cap, hv, _, _, hc⟩ := own_form hown h
    exact ⟨g, by simpa using (Value.slice.inj hv).1, hc⟩
  clear hown hb2
  go_wp2_with fail
  refine (rmarks_any A n cp G _ (HB.out.bel HB2.out) (by omega)).mono ?_
  rintro e w3 ⟨v3, rfl, hown3, hb3⟩
  obtain ⟨Ar, cpr, rfl⟩ := own_slice hown3
  have HB3 := Lib.hid (HB2.out.trans (hb3.mono HB2.out.size))
  have HC3 : Hid (0 < (Lm.ml G n).length → ∃ g h, Am = some ⟨g, 0, none⟩ ∧ Ar = some ⟨h, 0, none⟩ ∧ ∀ j u, (Lm.cells (Lm.ml G n))[j]? = some u → w3.cell? ⟨g, j, none⟩ = some u ∧ w3.cell? ⟨h, j, none⟩ = some u) := Lib.hid fun hp => by
    obtain ⟨g, hg, hc⟩ := HC2.out hp
    obtain ⟨h, cap, hv, _, _, hr⟩ := own_form hown3 hp
    exact ⟨g, h, hg, by simpa using (Value.slice.inj hv).1, fun j u hj => ⟨(hb3.cell (p := ⟨g, j, none⟩) (World.block_lt_of_cell? _ _ (hc j u hj))).trans (hc j u hj), hr j u hj⟩⟩
  have hml := Lm.ml_len G n
  clear hown3 hb3 HC2
  generalize hN : (Lm.ml G n).length = N at *
  have HN := Lib.hid hN
  have hNI : (N : Int) ≤ 1048576 := by omega
  clear hN
  go_wp2
  go_loopw [6] (fun s6 wr => ∃ j : Nat, s6 = .int .i64 j ∧ j ≤ N ∧ ∃ m, wr = w3.drewN m) (fun s6 _ => N - (intOf s6).toNat)
  case atStart => exact ⟨0, rfl, Nat.zero_le _, 0, rfl⟩
  case round =>
    obtain ⟨j, rfl, hjn, m, rfl⟩ := hrel
    by_cases hlt : j < N
    · have hlI : (j : Int) < (N : Int) := by omega
      obtain ⟨⟨p, kd⟩, hx⟩ : ∃ x, (Lm.ml G n)[j]? = some x := ⟨_, List.getElem?_eq_getElem (by rw [HN.out]; exact hlt)⟩
      obtain ⟨g, h, rfl, rfl, hc⟩ := HC3.out (by omega)
      obtain ⟨e0, e1⟩ := Lm.cells_get _ j (p, kd) hx
      obtain ⟨p0, q0⟩ := hc _ _ e0
      obtain ⟨p1, q1⟩ := hc _ _ e1
      simp only at p0 q0 p1 q1
      clear hc e0 e1 hx
      go_wp2
      go_quiet (fail)
      go_wp2
      go_roundw
      case rel => exact ⟨j + 1, by go_num, by omega, _, rfl⟩
      case measure => simp [intOf]; omega
    · have hlI : ¬ ((j : Int) < (N : Int)) := by omega
      go_wp2
      try rw [Exit.noGoto_ret]
      go_ret
      exact ⟨rfl, belowN HB3.out _⟩
end Go.Proofs.YtmbiolhecheplaaDoor
