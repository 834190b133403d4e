/-
  The reference's stands, Next of layer 7: what each call returns. For every index of up to 2^42 words, at every place; nothing that was there is written.
-/
import Derived.Test.YtmbiolhecheplaaDoorNext
import Derived.Test.YtmbiolhecheplaaDoorRefa
namespace Go.Proofs.YtmbiolhecheplaaDoor
open Go.RowKit

theorem stands_or (mw : Nat → Nat → BitVec 64) (j : Nat) : standsD mw j = ((mw (j / 64) 0).getLsbD (j % 64) || (mw (j / 64) 2).getLsbD (j % 64) || (mw (j / 64) 3).getLsbD (j % 64) || (mw (j / 64) 4).getLsbD (j % 64) || (mw (j / 64) 5).getLsbD (j % 64)) := by
  unfold standsD allD
  simp only [BitVec.getLsbD_or]

set_option maxRecDepth 100000 in
set_option maxHeartbeats 2000000 in
theorem rstands_any (A : Option Addr) (k cp : Nat) (mw : Nat → Nat → BitVec 64) (n : Int) (j : Nat) (w : World) (hs : WS w A k mw) (hj : j < 64 * k) (hk : k ≤ 4398046511104) :
    Calls Tryd.prog 28 #[.agg #[.slice A k cp, .int .i64 n], .int .i64 j] w fun e w' => e = .returned (.bool (standsD mw j)) ∧ Below w.heap.size w w' := by
  have hq : j / 64 < k := by omega
  obtain ⟨b, off, rfl, hc⟩ := hs.resolve_left (by omega)
  have d0 : w.cell? ⟨b, off + j / 64 * 7, none⟩ = some (.int .u64 (U (mw (j / 64) 0))) := hc _ hq 0 (by omega)
  have d1 := hc _ hq 1 (by omega)
  have d2 := hc _ hq 2 (by omega)
  have d3 := hc _ hq 3 (by omega)
  have d4 := hc _ hq 4 (by omega)
  have d5 := hc _ hq 5 (by omega)
  have d6 := hc _ hq 6 (by omega)
  have hblt := World.block_lt_of_cell? _ _ d0
  have hbne : b ≠ w.heap.size := by simp at hblt; omega
  rw [stands_or]
  clear hs hc
  cases h0 : (mw (j / 64) 0).getLsbD (j % 64)
  · have H0 := Lib.hid h0
    clear h0
    cases h1 : (mw (j / 64) 2).getLsbD (j % 64)
    · have H1 := Lib.hid h1
      clear h1
      cases h2 : (mw (j / 64) 3).getLsbD (j % 64)
      · have H2 := Lib.hid h2
        clear h2
        cases h3 : (mw (j / 64) 4).getLsbD (j % 64)
        · have H3 := Lib.hid h3
          clear h3
          cases h4 : (mw (j / 64) 5).getLsbD (j % 64)
          · have H4 := Lib.hid h4
            clear h4
            go_enter Tryd.func28, Tryd.ntmps28
            go_wp2_with fail
            refine (has_any (mw (j / 64) 0) (j % 64) (by omega) _).mono ?_
            rintro e w' ⟨rfl, rfl⟩
            rw [H0.out]
            go_wp2_with fail
            refine (has_any (mw (j / 64) 2) (j % 64) (by omega) _).mono ?_
            rintro e w' ⟨rfl, rfl⟩
            rw [H1.out]
            go_wp2_with fail
            refine (has_any (mw (j / 64) 3) (j % 64) (by omega) _).mono ?_
            rintro e w' ⟨rfl, rfl⟩
            rw [H2.out]
            go_wp2_with fail
            refine (has_any (mw (j / 64) 4) (j % 64) (by omega) _).mono ?_
            rintro e w' ⟨rfl, rfl⟩
            rw [H3.out]
            go_wp2_with fail
            refine (has_any (mw (j / 64) 5) (j % 64) (by omega) _).mono ?_
            rintro e w' ⟨rfl, rfl⟩
            rw [H4.out]
            go_wp2
            try rw [Exit.noGoto_ret]
            go_ret
            exact ⟨by simp, ((Below.refl _ _).alloc (Nat.le_refl _) _).alloc (by simp) _⟩
          · have H4 := Lib.hid h4
            clear h4
            go_enter Tryd.func28, Tryd.ntmps28
            go_wp2_with fail
            refine (has_any (mw (j / 64) 0) (j % 64) (by omega) _).mono ?_
            rintro e w' ⟨rfl, rfl⟩
            rw [H0.out]
            go_wp2_with fail
            refine (has_any (mw (j / 64) 2) (j % 64) (by omega) _).mono ?_
            rintro e w' ⟨rfl, rfl⟩
            rw [H1.out]
            go_wp2_with fail
            refine (has_any (mw (j / 64) 3) (j % 64) (by omega) _).mono ?_
            rintro e w' ⟨rfl, rfl⟩
            rw [H2.out]
            go_wp2_with fail
            refine (has_any (mw (j / 64) 4) (j % 64) (by omega) _).mono ?_
            rintro e w' ⟨rfl, rfl⟩
            rw [H3.out]
            go_wp2_with fail
            refine (has_any (mw (j / 64) 5) (j % 64) (by omega) _).mono ?_
            rintro e w' ⟨rfl, rfl⟩
            rw [H4.out]
            go_wp2
            try rw [Exit.noGoto_ret]
            go_ret
            exact ⟨by simp, ((Below.refl _ _).alloc (Nat.le_refl _) _).alloc (by simp) _⟩
        · have H3 := Lib.hid h3
          clear h3
          go_enter Tryd.func28, Tryd.ntmps28
          go_wp2_with fail
          refine (has_any (mw (j / 64) 0) (j % 64) (by omega) _).mono ?_
          rintro e w' ⟨rfl, rfl⟩
          rw [H0.out]
          go_wp2_with fail
          refine (has_any (mw (j / 64) 2) (j % 64) (by omega) _).mono ?_
          rintro e w' ⟨rfl, rfl⟩
          rw [H1.out]
          go_wp2_with fail
          refine (has_any (mw (j / 64) 3) (j % 64) (by omega) _).mono ?_
          rintro e w' ⟨rfl, rfl⟩
          rw [H2.out]
          go_wp2_with fail
          refine (has_any (mw (j / 64) 4) (j % 64) (by omega) _).mono ?_
          rintro e w' ⟨rfl, rfl⟩
          rw [H3.out]
          go_wp2
          try rw [Exit.noGoto_ret]
          go_ret
          exact ⟨by simp, ((Below.refl _ _).alloc (Nat.le_refl _) _).alloc (by simp) _⟩
      · have H2 := Lib.hid h2
        clear h2
        go_enter Tryd.func28, Tryd.ntmps28
        go_wp2_with fail
        refine (has_any (mw (j / 64) 0) (j % 64) (by omega) _).mono ?_
        rintro e w' ⟨rfl, rfl⟩
        rw [H0.out]
        go_wp2_with fail
        refine (has_any (mw (j / 64) 2) (j % 64) (by omega) _).mono ?_
        rintro e w' ⟨rfl, rfl⟩
        rw [H1.out]
        go_wp2_with fail
        refine (has_any (mw (j / 64) 3) (j % 64) (by omega) _).mono ?_
        rintro e w' ⟨rfl, rfl⟩
        rw [H2.out]
        go_wp2
        try rw [Exit.noGoto_ret]
        go_ret
        exact ⟨by simp, ((Below.refl _ _).alloc (Nat.le_refl _) _).alloc (by simp) _⟩
    · have H1 := Lib.hid h1
      clear h1
      go_enter Tryd.func28, Tryd.ntmps28
      go_wp2_with fail
      refine (has_any (mw (j / 64) 0) (j % 64) (by omega) _).mono ?_
      rintro e w' ⟨rfl, rfl⟩
      rw [H0.out]
      go_wp2_with fail
      refine (has_any (mw (j / 64) 2) (j % 64) (by omega) _).mono ?_
      rintro e w' ⟨rfl, rfl⟩
      rw [H1.out]
      go_wp2
      try rw [Exit.noGoto_ret]
      go_ret
      exact ⟨by simp, ((Below.refl _ _).alloc (Nat.le_refl _) _).alloc (by simp) _⟩
  · have H0 := Lib.hid h0
    clear h0
    go_enter Tryd.func28, Tryd.ntmps28
    go_wp2_with fail
    refine (has_any (mw (j / 64) 0) (j % 64) (by omega) _).mono ?_
    rintro e w' ⟨rfl, rfl⟩
    rw [H0.out]
    go_wp2
    try rw [Exit.noGoto_ret]
    go_ret
    exact ⟨by simp, ((Below.refl _ _).alloc (Nat.le_refl _) _).alloc (by simp) _⟩

theorem first_from {mw : Nat → Nat → BitVec 64} {k I j : Nat} (h : ∀ t, I ≤ t → t < j → standsD mw t = false) : firstD mw k I = -1 ∨ (j : Int) ≤ firstD mw k I := by
  rcases Lp.leastD_cases (fun j => decide (I ≤ j) && standsD mw j) (64 * k) with ⟨h1, _⟩ | ⟨m, _, h1, h2, _⟩
  · exact .inl h1
  · right
    unfold firstD
    rw [h1]
    simp at h2
    rcases Nat.lt_or_ge m j with hm | hm
    · rw [h m h2.1 hm] at h2; simp at h2
    · omega
theorem first_at {mw : Nat → Nat → BitVec 64} {k I j : Nat} (hI : I ≤ j) (hj : j < 64 * k) (h : ∀ t, I ≤ t → t < j → standsD mw t = false) (hs : standsD mw j = true) : firstD mw k I = (j : Int) :=
  Lp.leastD_some hj (by simp [hI, hs]) fun t ht => by
    by_cases h2 : I ≤ t
    · simp [h t h2 ht]
    · simp [h2]

set_option maxRecDepth 100000 in
set_option maxHeartbeats 2000000 in
theorem rnext_any (A : Option Addr) (k cp : Nat) (mw : Nat → Nat → BitVec 64) (n i : Int) (w : World) (hs : WS w A k mw) (hk : k ≤ 4398046511104) (hn : Fits63 n) (hi : Fits63 i) :
    Calls Tryd.prog 17 #[.agg #[.slice A k cp, .int .i64 n], .int .i64 i] w fun e w' => e = .returned (.int .i64 (nextI mw k n i)) ∧ Below w.heap.size w w' := by
  have HS := Lib.hid hs
  have HN := Lib.hid hn
  have hI : ∃ I : Nat, (I : Int) = max i 0 := ⟨(max i 0).toNat, by omega⟩
  obtain ⟨I, hI⟩ := hI
  have hnx : nextI mw k n i = if (I : Int) < n then (if 0 ≤ firstD mw k I then min (firstD mw k I) n else n) else max n 0 := by unfold nextI; rw [← hI, Int.toNat_natCast]
  rw [hnx]
  generalize hR : (if (I : Int) < n then (if 0 ≤ firstD mw k I then min (firstD mw k I) n else n) else max n 0) = R
  have HR := Lib.hid hR
  have hI63 : Fits63 (I : Int) := ⟨by have := hi.out; omega⟩
  have hcs : (i < 0 ∧ (I : Int) = 0) ∨ (0 ≤ i ∧ i = (I : Int)) := by omega
  have HCS := Lib.hid hcs
  have HI63 := Lib.hid hI63
  clear hs hn hi hI hnx hcs hI63 hR
  go_enter Tryd.func17, Tryd.ntmps17
  go_upto_if 6 with (fail)
  go_cut [1] (fun s1 wx => s1 = .int .i64 I ∧ (w.alloc (.cells #[.slice A k cp, .int .i64 n] 27)) = wx)
  case first =>
    rcases HCS.out with ⟨h1, h2⟩ | ⟨h1, rfl⟩
    · go_wp2_with fail
      go_meet
      exact ⟨by first | rfl | (rw [h2] <;> rfl), rfl⟩
    · go_wp2_with fail
      go_meet
      exact ⟨rfl, rfl⟩
  case rest =>
    obtain ⟨rfl, hwc⟩ := hcut
    have hblk : Blk wc w.heap.size 27 #[.slice A k cp, .int .i64 n] := by rw [← hwc]; exact Blk.new _ _ _
    have hbel : Below w.heap.size w wc := by rw [← hwc]; exact (Below.refl _ _).alloc (Nat.le_refl _) _
    have HBLK := Lib.hid hblk
    have HBEL := Lib.hid hbel
    clear hblk hbel hwc
    go_wp2
    go_loopw [1] (fun s1 wr => ∃ j : Nat, s1 = .int .i64 j ∧ I ≤ j ∧ (j ≤ 64 * k ∨ j = I) ∧ Hid (∀ t, I ≤ t → t < j → standsD mw t = false) ∧ Below w.heap.size w wr ∧ Blk wr w.heap.size 27 #[.slice A k cp, .int .i64 n]) (fun s1 _ => 64 * k - (intOf s1).toNat)
    case atStart =>
      refine ⟨I, rfl, Nat.le_refl _, .inr rfl, ?_, HBEL.out, HBLK.out⟩
      show ∀ t, I ≤ t → t < I → standsD mw t = false
      intro t h1 h2; omega
    case round =>
      obtain ⟨j, rfl, hIj, hjk, hnone, hbel, hblk⟩ := hrel
      have HNONE := Lib.hid hnone.out
      have HB := Lib.hid hbel
      have HBK := Lib.hid hblk
      have c0 := hblk.cell 0
      have c1 := hblk.cell 1
      simp at c0 c1
      have hRx : ¬ ((j : Int) < n ∧ j < 64 * k) → R = max n 0 := by
        intro hx
        rw [← HR.out]
        by_cases hIn : (I : Int) < n
        · rw [if_pos hIn]
          rcases first_from (k := k) HNONE.out with hf | hf
          · rw [hf, if_neg (by omega)]; omega
          · by_cases hjn : (j : Int) < n
            · have hj3 : 64 * k ≤ j := by omega
              have hf2 : firstD mw k I = -1 := by
                rcases Lp.leastD_cases (fun j => decide (I ≤ j) && standsD mw j) (64 * k) with ⟨h1, _⟩ | ⟨m, h0, h1, _⟩
                · exact h1
                · unfold firstD at hf; rw [h1] at hf; omega
              rw [hf2, if_neg (by omega)]; omega
            · rw [if_pos (by omega)]; omega
        · rw [if_neg hIn]
      have hRy : (j : Int) < n → j < 64 * k → standsD mw j = true → R = (j : Int) := by
        intro h1 h2 h3
        rw [← HR.out, if_pos (by omega), first_at hIj h2 HNONE.out h3, if_pos (by omega)]; omega
      have HRX := Lib.hid hRx
      have HRY := Lib.hid hRy
      clear hnone hblk hbel hRx hRy
      by_cases hjn : (j : Int) < n
      · by_cases hj2 : j < 64 * k
        · have hj3 : (j : Int) < 64 * k := by omega
          have hst : Calls Tryd.prog 28 #[.agg #[.slice A k cp, .int .i64 n], .int .i64 j] wr fun e w' => e = .returned (.bool (standsD mw j)) ∧ Below wr.heap.size wr w' :=
            rstands_any A k cp mw n j wr (HS.out.keep fun a _ e => (HB.out.cell (p := a) (World.block_lt_of_cell? _ _ e)).trans e) hj2 hk
          have HST := Lib.hid hst
          clear hst
          cases hsj : standsD mw j
          · have HSJ := Lib.hid hsj
            clear hsj
            go_wp2_with fail
            refine HST.out.mono ?_
            rintro e w' ⟨rfl, hb'⟩
            have HB2 := Lib.hid (HB.out.trans (hb'.mono HB.out.size))
            have HK2 := Lib.hid (HBK.out.kept hb')
            clear hb'
            rw [HSJ.out]
            go_wp2
            go_roundw
            case rel =>
              refine ⟨j + 1, by go_num, by omega, .inl (by omega), ?_, HB2.out, HK2.out⟩
              show ∀ t, I ≤ t → t < j + 1 → standsD mw t = false
              intro t t1 t2
              by_cases e : t = j
              · rw [e]; exact HSJ.out
              · exact HNONE.out t t1 (by omega)
            case measure => simp [intOf] <;> omega
          · have hr := HRY.out hjn hj2 hsj
            have HSJ := Lib.hid hsj
            clear hsj
            go_wp2_with fail
            refine HST.out.mono ?_
            rintro e w' ⟨rfl, hb'⟩
            have HB2 := Lib.hid (HB.out.trans (hb'.mono HB.out.size))
            clear hb'
            rw [HSJ.out]
            go_wp2
            try rw [Exit.noGoto_ret]
            go_ret
            exact ⟨by first | rfl | (rw [hr] <;> rfl), HB2.out⟩
        · have hj3 : ¬ (j : Int) < 64 * k := by omega
          have hRm := HRX.out (by omega)
          have hR0 : R = n := by omega
          have hn0 : 0 < n := by omega
          clear hRm
          go_wp2
          try rw [Exit.noGoto_ret]
          go_ret
          exact ⟨by first | rfl | (rw [hR0] <;> rfl), HB.out⟩
      · have hRm := HRX.out (by omega)
        rcases Int.lt_trichotomy n 0 with hn0 | hn0 | hn0
        · have hR0 : R = 0 := by omega
          clear hRm
          go_wp2
          try rw [Exit.noGoto_ret]
          go_ret
          exact ⟨by first | rfl | (rw [hR0] <;> rfl), HB.out⟩
        · subst hn0
          have hR0 : R = 0 := by omega
          clear hRm
          go_wp2
          try rw [Exit.noGoto_ret]
          go_ret
          exact ⟨by first | rfl | (rw [hR0] <;> rfl), HB.out⟩
        · have hR0 : R = n := by omega
          clear hRm
          go_wp2
          try rw [Exit.noGoto_ret]
          go_ret
          exact ⟨by first | rfl | (rw [hR0] <;> rfl), HB.out⟩
end Go.Proofs.YtmbiolhecheplaaDoor
