/-
  The walk of MarksOrder: the law returns true, over texts of up to 2^42 bytes. Condition: the table of math/bits lies; what was there stays as it is.
-/
import Derived.Test.YtmbiolhecheplaaDoorShm
import Derived.Deep.DeepCutAuto
import Derived.BigQuiet
import Derived.Deep.QuietTactic
namespace Go.Proofs.YtmbiolhecheplaaDoor
open Go.RowKit

set_option maxRecDepth 100000 in
set_option maxHeartbeats 4000000 in
theorem order_law (w : World) (hT : Tab w) (A : Option Addr) (n cp : Nat) (G : Nat → Int) (hb : BS w A n G) (hcp : n ≤ cp) (hf : cp ≤ 1048576) :
    Calls Tryd.prog 8 #[.slice A n cp] w (TrueIs w) := by
  have HT := Lib.hid hT
  have HB := Lib.hid hb
  clear hT hb
  go_enter Tryd.func8, Tryd.ntmps8
  go_wp2_with fail
  refine (shown_any _ HT.out).mono ?_
  rintro e w1 ⟨rfl, hb1⟩
  have HB1 := Lib.hid hb1
  clear hb1
  go_wp2_with fail
  refine (marks_any A n cp G _ (HB.out.bel HB1.out) (by omega) hcp (by omega)).mono ?_
  rintro e w2 ⟨v2, rfl, hown, hb2⟩
  obtain ⟨Am, cpm, rfl⟩ := own_slice hown
  have HB2 := Lib.hid (HB1.out.trans (hb2.mono HB1.out.size))
  have HC2 : Hid (0 < (Lm.ml G n).length → ∃ g, Am = some ⟨g, 0, none⟩ ∧ ∀ j u, (Lm.cells (Lm.ml G n))[j]? = some u → w2.cell? ⟨g, j, none⟩ = some u) := Lib.hid fun h => by
    obtain ⟨g, cap, hv, _, _, hc⟩ := own_form hown h
    exact ⟨g, by simpa using (Value.slice.inj hv).1, hc⟩
  clear hown hb2
  go_wp2_with fail
  refine (build_any A n cp G _ (HB.out.bel HB2.out) (by omega) hcp (by omega)).mono ?_
  rintro e w3 ⟨A', cp', rfl, hcp', hws, hb3⟩
  have hb4 := hb3.alloc hb3.size (.cells #[.slice A' (nwords n) cp', .int .i64 n] 27)
  have hlt4 : w3.heap.size < (w3.alloc (.cells #[.slice A' (nwords n) cp', .int .i64 n] 27)).heap.size := by simp
  have HWS := Lib.hid (hws.below ((Below.refl _ _).alloc (Nat.le_refl _) (.cells #[.slice A' (nwords n) cp', .int .i64 n] 27)))
  have HB4 := Lib.hid (HB2.out.trans (hb4.mono HB2.out.size))
  have HC4 : Hid (0 < (Lm.ml G n).length → ∃ g, Am = some ⟨g, 0, none⟩ ∧ ∀ j u, (Lm.cells (Lm.ml G n))[j]? = some u → (w3.alloc (.cells #[.slice A' (nwords n) cp', .int .i64 n] 27)).cell? ⟨g, j, none⟩ = some u) := Lib.hid fun h => by
    obtain ⟨g, hg, hc⟩ := HC2.out h
    exact ⟨g, hg, fun j u hj => (hb4.cell (p := ⟨g, j, none⟩) (World.block_lt_of_cell? _ _ (hc j u hj))).trans (hc j u hj)⟩
  have HX := Lib.hid (Blk.newAt w3 27 #[.slice A' (nwords n) cp', .int .i64 n] rfl)
  have hml := Lm.ml_len G n
  clear hws hb3 hb4 HC2
  go_wp2
  generalize w3.heap.size = gx at *
  generalize w3.alloc (.cells #[.slice A' (nwords n) cp', .int .i64 n] 27) = wb at *
  have HSRC : Hid (∀ W : World, Below wb.heap.size wb W → ∀ i, i < n → ∃ b off, A = some ⟨b, off, none⟩ ∧ W.cell? ⟨b, off + i, none⟩ = some (.int .u8 (G i))) := Lib.hid fun W hW i hi => by
    obtain ⟨b, off, hA, hc⟩ := (HB.out.bel HB4.out).resolve_left (by omega)
    exact ⟨b, off, hA, (hW.cell (p := ⟨b, off + i, none⟩) (World.block_lt_of_cell? _ _ (hc i hi))).trans (hc i hi)⟩
  have HTW : Hid (∀ W : World, Below wb.heap.size wb W → Tab W ∧ WS W A' (nwords n) (mwG G n) ∧ W.cell? ⟨gx, 0, none⟩ = some (.slice A' (nwords n) cp') ∧ W.cell? ⟨gx, 1, none⟩ = some (.int .i64 n)) := Lib.hid fun W hW =>
    ⟨(HT.out.below HB4.out).below hW, HWS.out.below hW, ((HX.out.kept hW).cell 0).trans rfl, ((HX.out.kept hW).cell 1).trans rfl⟩
  have HNX : Hid (∀ (W : World) (i : Int), Below wb.heap.size wb W → Fits63 i → Calls Tryd.prog 16 #[.agg #[.slice A' (nwords n) cp', .int .i64 n], .int .i64 i] W fun e w' => e = .returned (.int .i64 (nextI (mwG G n) (nwords n) n i)) ∧ Below wb.heap.size wb w') := Lib.hid fun W i hW hi =>
    (next_any A' (nwords n) cp' (mwG G n) n i W (HTW.out W hW).2.1 (HTW.out W hW).1 (by unfold nwords; omega) ⟨by omega⟩ hi).mono fun e w' hh => ⟨hh.1, hW.trans (hh.2.mono hW.size)⟩
  have hnI : (n : Int) ≤ 1048576 := by omega
  have hnN : n ≤ 1048576 := by omega
  have HWB := Lib.hid HB4.out
  clear hcp hf HT HB HB1 HB2 HB4 HWS HX hlt4 hcp'
  generalize hN : (Lm.ml G n).length = N at *
  have HN := Lib.hid hN
  clear hN
  have hNI : (N : Int) ≤ 1048576 := by omega
  go_loopw [6, 7] (fun s6 s7 wr => ∃ i a : Nat, s7 = .int .i64 i ∧ s6 = .int .i64 a ∧ i ≤ N ∧ Hid (AtIs G n i a) ∧ Below wb.heap.size wb wr) (fun _ s7 _ => N - (intOf s7).toNat)
  case atStart => exact ⟨0, 0, rfl, rfl, Nat.zero_le _, AtIs.zero G n, Below.refl _ _⟩
  case round =>
    obtain ⟨i, a, rfl, rfl, hiN, hat, hbe⟩ := hrel
    have HAT := Lib.hid hat.out
    have HBE := Lib.hid hbe
    have haI : (a : Int) ≤ 1048576 := by have := HAT.out.le; omega
    clear hat hbe
    by_cases hlt : i < N
    · have hltI : (i : Int) < (N : Int) := by omega
      obtain ⟨⟨p, kd⟩, hx⟩ : ∃ x, (Lm.ml G n)[i]? = some x := ⟨_, List.getElem?_eq_getElem (by rw [HN.out]; exact hlt)⟩
      have HXI := Lib.hid hx
      obtain ⟨g, rfl, hc⟩ := HC4.out (by omega)
      have HCW : Hid (∀ W : World, Below wb.heap.size wb W → ∀ j u, (Lm.cells (Lm.ml G n))[j]? = some u → W.cell? ⟨g, j, none⟩ = some u) := Lib.hid fun W hW j u hj => (hW.cell (p := ⟨g, j, none⟩) (World.block_lt_of_cell? _ _ (hc j u hj))).trans (hc j u hj)
      have hpn := (Lm.ml_mem G n (p, kd)).1 (List.mem_of_getElem? hx)
      have hpn1 : (p : Int) < (n : Int) := by have := hpn.1; simp only at this; omega
      have hpn2 : ¬ ((n : Int) ≤ (p : Int)) := by omega
      have hp0 : ¬ ((p : Int) < 0) := by omega
      have hpn3 : decide (n ≤ p) = false := by simp; omega
      have hce := Lm.cells_get _ i (p, kd) hx
      have e0 := HCW.out wr HBE.out _ _ hce.1
      have e1 := HCW.out wr HBE.out _ _ hce.2
      simp only at e0 e1
      clear hc hpn hx
      go_upto_region 8 with (fail)
      go_cut [54] (fun s54 wx => s54 = .bool false ∧ ∃ m, wx = wr.drewN m)
      case first =>
        by_cases hi0 : i = 0
        · subst hi0
          have hd0 : decide ((0 : Int) < ((0 : Nat) : Int)) = false := by decide
          go_quiet (fail)
          go_wp2_with fail
          go_meet
          exact ⟨rfl, _, rfl⟩
        · obtain ⟨i', hi'⟩ : ∃ i', i = i' + 1 := ⟨i - 1, by omega⟩
          obtain ⟨⟨p', kd'⟩, hx'⟩ : ∃ x, (Lm.ml G n)[i']? = some x := ⟨_, List.getElem?_eq_getElem (by rw [HN.out]; omega)⟩
          have hup := Lm.ml_lt (i := i') (j := i) (by omega) hx' HXI.out
          have e2 := HCW.out wr HBE.out _ _ (Lm.cells_get _ i' (p', kd') hx').1
          simp only at e2 hup
          have hi1 : (i : Int) - 1 = (i' : Int) := by omega
          have hi2 : (0 : Int) < (i : Int) := by omega
          have hi3 : decide (0 < i) = true := by simp; omega
          have hi4 : (i' : Int) < (N : Int) := by omega
          have hle : ¬ ((p : Int) ≤ (p' : Int)) := by omega
          have hle2 : decide (p ≤ p') = false := by simp; omega
          clear hx' hi' hup hi0
          go_quiet (fail)
          go_wp2_with fail
          go_meet
          exact ⟨rfl, _, rfl⟩
      case rest =>
        obtain ⟨rfl, m, rfl⟩ := hcut
        have HBM := Lib.hid (belowN HBE.out m)
        by_cases h48 : kd = 48
        · subst h48
          go_wp2
          go_roundw
          case rel => exact ⟨i + 1, a, by go_num, rfl, by omega, HAT.out.skip HXI.out rfl, HBM.out⟩
          case measure => simp [intOf]; omega
        · have h48b : (kd == 48) = false := by simpa using h48
          obtain ⟨_, htg, htell⟩ := HAT.out.tell HXI.out h48
          simp only at htg htell
          have HST := Lib.hid (HAT.out.step HXI.out)
          subst htg
          have hnp : ¬ ((n : Int) ≤ (p : Int)) := by omega
          obtain ⟨b0, off0, rfl, _⟩ := HSRC.out wb (Below.refl _ _) p (by omega)
          have HSR : Hid (∀ W : World, Below wb.heap.size wb W → ∀ i, i < n → W.cell? ⟨b0, off0 + i, none⟩ = some (.int .u8 (G i))) := Lib.hid fun W hW i hi => by
            obtain ⟨b, off, hA, hc⟩ := HSRC.out W hW i hi
            obtain ⟨rfl, rfl⟩ : b0 = b ∧ off0 = off := by simpa using hA
            exact hc
          have x0 := (HTW.out _ HBM.out).2.2.1
          have x1 := (HTW.out _ HBM.out).2.2.2
          clear hpn2 hpn3 h48 HSRC
          go_wp2_with fail
          refine (HNX.out _ (a : Int) HBM.out ⟨by omega⟩).mono ?_
          rintro e w4 ⟨rfl, hb4⟩
          have HB4' := Lib.hid hb4
          have y0 := (HTW.out _ hb4).2.2.1
          have y1 := (HTW.out _ hb4).2.2.2
          have c0 := HCW.out w4 hb4 _ _ (Lm.cells_get _ i _ HXI.out).1
          have c1 := HCW.out w4 hb4 _ _ (Lm.cells_get _ i _ HXI.out).2
          have g0 := HSR.out w4 hb4 p (by omega)
          simp only at c0 c1
          clear x0 x1 hb4 e0 e1
          rcases htell with ht | ⟨q, ht, hqp, hq34, ht2⟩
          · rw [ht]
            clear ht y0 y1
            have hpp : ¬ ((p : Int) < (p : Int)) := by omega
            go_wp2
            go_quiet (fail)
            go_wp2
            go_roundw
            case rel => exact ⟨i + 1, p + 1, by go_num, by go_num, by omega, HST.out, belowN HB4'.out _⟩
            case measure => simp [intOf]; omega
          · rw [ht]
            have s0 := HSR.out w4 HB4'.out q (by omega)
            rw [hq34] at s0
            have hqI : (q : Int) < (p : Int) := by omega
            have hqI2 : (q : Int) < (n : Int) := by omega
            have hqI3 : (q : Int) ≤ 1048576 := by omega
            have HT2 := Lib.hid ht2
            clear ht ht2 hq34
            go_wp2_with fail
            refine (HNX.out _ ((q : Int) + 1) HB4'.out ⟨by omega⟩).mono ?_
            rintro e w5 ⟨rfl, hb5⟩
            have HB5 := Lib.hid hb5
            have c2 := HCW.out w5 hb5 _ _ (Lm.cells_get _ i _ HXI.out).1
            have c3 := HCW.out w5 hb5 _ _ (Lm.cells_get _ i _ HXI.out).2
            have g2 := HSR.out w5 hb5 p (by omega)
            simp only at c2 c3
            clear hb5 y0 y1 c0 c1 g0 s0
            rw [show nextI (mwG G n) (nwords n) n ((q : Int) + 1) = (p : Int) from HT2.out]
            go_wp2
            go_quiet (fail)
            go_wp2
            go_roundw
            case rel => exact ⟨i + 1, p + 1, by go_num, by go_num, by omega, HST.out, belowN HB5.out _⟩
            case measure => simp [intOf]; omega
    · have hltI : ¬ ((i : Int) < (N : Int)) := by omega
      obtain rfl : i = N := by omega
      have hlast := (show AtIs G n (Lm.ml G n).length a by rw [HN.out]; exact HAT.out).last
      have x0 := (HTW.out _ HBE.out).2.2.1
      have x1 := (HTW.out _ HBE.out).2.2.2
      go_wp2_with fail
      refine (HNX.out _ (a : Int) HBE.out ⟨by omega⟩).mono ?_
      rintro e w4 ⟨rfl, hb4⟩
      have HB4' := Lib.hid hb4
      have y0 := (HTW.out _ hb4).2.2.1
      have y1 := (HTW.out _ hb4).2.2.2
      clear x0 x1 hb4
      rcases hlast with ht | ⟨q, ht, hqp, hq34, ht2⟩
      · rw [ht]
        clear ht y0 y1
        go_wp2
        try rw [Exit.noGoto_ret]
        go_ret
        exact ⟨rfl, HWB.out.trans (HB4'.out.mono HWB.out.size)⟩
      · rw [ht]
        obtain ⟨b0, off0, rfl, s0⟩ := HSRC.out w4 HB4'.out q (by omega)
        rw [hq34] at s0
        have hqI2 : (q : Int) < (n : Int) := by omega
        have hqI3 : (q : Int) ≤ 1048576 := by omega
        have HT2 := Lib.hid ht2
        clear ht ht2 hq34
        go_wp2_with fail
        refine (HNX.out _ ((q : Int) + 1) HB4'.out ⟨by omega⟩).mono ?_
        rintro e w5 ⟨rfl, hb5⟩
        have HB5 := Lib.hid hb5
        clear hb5 y0 y1 s0
        rw [show nextI (mwG G n) (nwords n) n ((q : Int) + 1) = (n : Int) from HT2.out]
        go_wp2
        try rw [Exit.noGoto_ret]
        go_ret
        exact ⟨rfl, HWB.out.trans (HB5.out.mono HWB.out.size)⟩
end Go.Proofs.YtmbiolhecheplaaDoor
