/-
  The walk of MarksBrackets: the law returns true, over indexes of up to 2^20 words. Condition: the table of math/bits lies; what was there stays as it is.
-/
import Derived.Test.YtmbiolhecheplaaDoorShm
import Derived.Test.YtmbiolhecheplaaDoorRbr
import Derived.BigQuiet
import Derived.Deep.QuietTactic
namespace Go.Proofs.YtmbiolhecheplaaDoor
open Go.RowKit

theorem brRow_get (bs : List Bool) (j : Nat) (h : j < bwords bs.length) : (brRow bs)[j]? = some (.int .u64 (U (packW bs j))) := by
  unfold brRow
  rw [List.getElem?_map, List.getElem?_range h]; rfl

set_option maxRecDepth 100000 in
set_option maxHeartbeats 2000000 in
theorem brackets_law (w : World) (hT : Tab w) (A : Option Addr) (k cp : Nat) (mw : Nat → Nat → BitVec 64) (hs : WS w A k mw) (hk : k ≤ 1048576) (n : Int) (_hn : Fits63 n) :
    Calls Tryd.prog 6 #[.agg #[.slice A k cp, .int .i64 n]] w (TrueIs w) := by
  have HT := Lib.hid hT
  have HS := Lib.hid hs
  clear hT hs
  go_enter Tryd.func6, Tryd.ntmps6
  go_wp2_with fail
  have hw : Below w.heap.size w (w.alloc (.cells #[.slice A k cp, .int .i64 n] 27)) := (Below.refl _ _).alloc (Nat.le_refl _) _
  refine (shown_any _ (HT.out.below hw)).mono ?_
  rintro e w1 ⟨rfl, hb1⟩
  have hbk : Blk w1 w.heap.size 27 #[.slice A k cp, .int .i64 n] := (Blk.new _ _ _).kept hb1
  have HB1 := Lib.hid (hw.trans (hb1.mono (by simp)))
  have HK1 := Lib.hid hbk
  have x0 := hbk.cell 0
  have x1 := hbk.cell 1
  simp at x0 x1
  clear hbk hb1 hw
  go_wp2_with fail
  refine (brackets_any A k cp mw n _ (HS.out.below HB1.out) (HT.out.below HB1.out) (by omega)).mono ?_
  rintro e w2 ⟨v2, rfl, hown2, hb2⟩
  obtain ⟨A2, cp2, rfl⟩ := own_slice hown2
  have HB2 := Lib.hid (HB1.out.trans (hb2.mono HB1.out.size))
  have hk2 := HK1.out.kept hb2
  have HC2 : Hid (0 < bwords (brB mw (64 * k)).length → ∃ g, A2 = some ⟨g, 0, none⟩ ∧ ∀ j u, (brRow (brB mw (64 * k)))[j]? = some u → w2.cell? ⟨g, j, none⟩ = some u) := Lib.hid fun h => by
    obtain ⟨g, cap, hv, _, _, hc⟩ := own_form hown2 h
    exact ⟨g, by simpa using (Value.slice.inj hv).1, hc⟩
  have y0 := hk2.cell 0
  have y1 := hk2.cell 1
  simp at y0 y1
  clear hown2 hb2 hk2 x0 x1
  go_wp2_with fail
  refine (rbrackets_any A k cp mw n _ (HS.out.below HB2.out) hk).mono ?_
  rintro e w3 ⟨v3, rfl, hown3, hb3⟩
  obtain ⟨A3, cp3, rfl⟩ := own_slice hown3
  have HB3 := Lib.hid (HB2.out.trans (hb3.mono HB2.out.size))
  have hlen : (brB mw (64 * k)).length ≤ 67108864 := Nat.le_trans (brB_len mw (64 * k)) (by omega)
  have HC3 : Hid (0 < bwords (brB mw (64 * k)).length → ∃ g, A2 = some ⟨g, 0, none⟩ ∧ ∀ j u, (brRow (brB mw (64 * k)))[j]? = some u → w3.cell? ⟨g, j, none⟩ = some u) := Lib.hid fun h => by
    obtain ⟨g, hg, hc⟩ := HC2.out h
    exact ⟨g, hg, fun j u hj => (hb3.cell (p := ⟨g, j, none⟩) (World.block_lt_of_cell? _ _ (hc j u hj))).trans (hc j u hj)⟩
  have hbo : BoS w3 A3 (brB mw (64 * k)).length (fun i => (brB mw (64 * k)).getD i false) := by
    by_cases h0 : (brB mw (64 * k)).length = 0
    · exact .inl h0
    · obtain ⟨g, cap, hv, _, _, hc⟩ := own_form hown3 (by omega)
      obtain rfl : A3 = some ⟨g, 0, none⟩ := by simpa using (Value.slice.inj hv).1
      refine .inr ⟨g, 0, rfl, fun i hi => ?_⟩
      rw [Nat.zero_add]
      have e : (brB mw (64 * k)).getD i false = (brB mw (64 * k))[i] := by rw [List.getD_eq_getElem?_getD, List.getElem?_eq_getElem hi]; rfl
      show w3.cell? ⟨g, i, none⟩ = some (.bool ((brB mw (64 * k)).getD i false))
      rw [e]
      exact hc i _ (by rw [List.getElem?_map, List.getElem?_eq_getElem hi]; rfl)
  have HBO := Lib.hid hbo
  clear hown3 hb3 HC2 y0 y1 hbo
  generalize hbs : brB mw (64 * k) = bs at *
  go_wp2_with fail
  refine (pack_any A3 bs.length cp3 bs _ rfl HBO.out hlen).mono ?_
  rintro e w4 ⟨v4, rfl, hown4, hb4⟩
  obtain ⟨A4, cp4, rfl⟩ := own_slice hown4
  have HB4 := Lib.hid (HB3.out.trans (hb4.mono HB3.out.size))
  have HC4 : Hid (0 < bwords bs.length → ∃ g h, A2 = some ⟨g, 0, none⟩ ∧ A4 = some ⟨h, 0, none⟩ ∧ ∀ j u, (brRow bs)[j]? = some u → w4.cell? ⟨g, j, none⟩ = some u ∧ w4.cell? ⟨h, j, none⟩ = some u) := Lib.hid fun hp => by
    obtain ⟨g, hg, hc⟩ := HC3.out hp
    obtain ⟨h, cap, hv, _, _, hr⟩ := own_form hown4 hp
    exact ⟨g, h, hg, by simpa using (Value.slice.inj hv).1, fun j u hj => ⟨(hb4.cell (p := ⟨g, j, none⟩) (World.block_lt_of_cell? _ _ (hc j u hj))).trans (hc j u hj), hr j u hj⟩⟩
  have hbw : bwords bs.length ≤ 1048577 := by unfold bwords; omega
  clear hown4 hb4 HC3 HBO hbs
  generalize hL : bs.length = L at *
  have HL := Lib.hid hL
  clear hL
  generalize hNW : bwords L = NW at *
  have HNW := Lib.hid hNW
  have hNI : (NW : Int) ≤ 1048577 := by omega
  clear hNW
  go_wp2
  go_loopw [8] (fun s8 wr => ∃ j : Nat, s8 = .int .i64 j ∧ j ≤ NW ∧ ∃ m, wr = w4.drewN m) (fun s8 _ => NW - (intOf s8).toNat)
  case atStart => exact ⟨0, rfl, Nat.zero_le _, 0, rfl⟩
  case round =>
    obtain ⟨j, rfl, hjn, m, rfl⟩ := hrel
    by_cases hlt : j < NW
    · have hlI : (j : Int) < (NW : Int) := by omega
      obtain ⟨g, h, rfl, rfl, hc⟩ := HC4.out (by omega)
      obtain ⟨p0, q0⟩ := hc j _ (brRow_get bs j (by rw [HL.out, HNW.out]; exact hlt))
      clear hc
      go_wp2
      go_quiet (fail)
      go_wp2
      go_roundw
      case rel => exact ⟨j + 1, by go_num, by omega, _, rfl⟩
      case measure => simp [intOf]; omega
    · have hlI : ¬ ((j : Int) < (NW : Int)) := by omega
      go_wp2
      try rw [Exit.noGoto_ret]
      go_ret
      exact ⟨rfl, belowN HB4.out _⟩
end Go.Proofs.YtmbiolhecheplaaDoor
