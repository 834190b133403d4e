/-
  A vector's Close: what each call returns. For every vector of at most 2^50 bits, nil too, and every place; nothing is written.
-/
import Derived.Test.YtldjemekncfmeaaDoorVecb
namespace Go.Proofs.YtldjemekncfmeaaDoor
open Go.RowKit

/-- the bracket that closes the one at a place; -1 -/
def closeI (f : Nat → Bool) (n : Nat) (i : Int) : Int := if opB f n i then Lp.closeD f n i.toNat else -1

theorem bit_one (x : BitVec 64) (n : Nat) (h : x.getLsbD n = true) : bits .and .u64 (U (x >>> n)) 1 = 1 := by
  have h1 := U_and1 (x >>> n)
  rw [shr_bit, h] at h1
  simpa using h1
theorem bit_zero (x : BitVec 64) (n : Nat) (h : x.getLsbD n = false) : bits .and .u64 (U (x >>> n)) 1 = 0 := by
  have h : bits .and .u64 (U (x >>> n)) (U 1#64) = U ((x >>> n) &&& 1#64) := U_and _ _
  rw [U_one] at h
  rw [h]
  have e : (x >>> n) &&& 1#64 = 0#64 := by
    apply Lo.ext64
    intro i hi
    rw [BitVec.getLsbD_and, BitVec.getLsbD_one]
    by_cases h0 : i = 0
    · subst h0; rw [shr_bit]; simp_all
    · simp [h0]
  rw [e]; rfl

set_option maxHeartbeats 2000000 in
theorem close_any (p : Option Addr) (n : Nat) (f : Nat → Bool) (i : Int) (w : World) (h : Vec w p n f) :
    Calls Tryd.prog 22 #[.pointer p, .int .i64 i] w (Ret (.int .i64 (closeI f n i)) w) := by
  have HV := Lib.hid h
  by_cases h0 : opB f n i = true
  · have hh := h0
    simp only [opB, inB, Bool.and_eq_true, decide_eq_true_eq] at hh
    obtain ⟨⟨hi0, hin⟩, hfi⟩ := hh
    obtain ⟨k, rfl⟩ := Int.eq_ofNat_of_zero_le hi0
    rw [Int.toNat_natCast] at hfi
    obtain ⟨hn, hz, ⟨rfl, rfl⟩ | ⟨g, Aw, Ar, Al, Am, cw, cr, cl, cm, xs, ls, ms, rfl, v⟩⟩ := h
    · omega
    have hkn : k < n := by omega
    have hW : 0 < nw n := by unfold nw; omega
    obtain ⟨bw, ow, rfl, hw⟩ := v.s1.at hW
    obtain ⟨bl, ol, rfl, hl⟩ := v.s3.at hW
    have c0 := v.c0
    have c1 := v.c1
    have c3 := v.c3
    have hlo := v.lo
    have hbits := v.bits
    have hr : closeI f n (k : Int) = Lp.closeD f n k := by rw [closeI, if_pos h0]; rfl
    rw [hr]
    have hexk : exI f n (k : Int) = Lp.ex f k := by unfold exI; rw [show (max 0 (min (k : Int) n)).toNat = k from by omega]
    have hopk := Lp.ex_open hfi
    have hbk := Lp.ex_bound f k
    generalize hX : Lp.ex f k = X at *
    have HX := Lib.hid hX
    have HE := Lib.hid hexk
    have HI := Lib.hid h0
    have HW := Lib.hid hw
    have HL := Lib.hid hl
    have HLO := Lib.hid hlo
    have HB := Lib.hid hbits
    have HO := Lib.hid hopk
    have HF := Lib.hid hfi
    have HZ := Lib.hid hz
    obtain ⟨hb1, hb2⟩ := hbk
    clear v hr hexk hX hw hl hlo hbits hopk hfi h0 hz
    have hexc : ∀ (W : World) (i : Int), Vec W (some ⟨g, 0, none⟩) n f → Calls Tryd.prog 18 #[.pointer (some ⟨g, 0, none⟩), .int .i64 i] W (Ret (.int .i64 (exI f n i)) W) := fun W i hW => excess_any _ n f i W hW
    have HEX := Lib.hid hexc
    clear hexc
    go_enter Tryd.func22, Tryd.ntmps22
    go_wp2_with fail
    go_step3
    go_wp2_with fail
    refine (opens_any _ n f _ _ HV.out).mono ?_
    rintro e w' ⟨rfl, rfl⟩
    rw [HI.out]
    go_wp2_with fail
    refine (HEX.out _ _ HV.out).mono ?_
    rintro e w' ⟨rfl, m0, rfl⟩
    rw [HE.out]
    go_wp2
    go_step3
    go_wp2
    go_loopw [6, 7, 8] (fun s6 s7 _ wr => ∃ a : Nat, s6 = .int .i64 a ∧ k < a ∧ a ≤ n + 64 ∧ Hid (∀ j, k < j → j ≤ a → j ≤ n → X < Lp.ex f j) ∧ s7 = .int .i64 (Lp.ex f (min a n)) ∧ ∃ m, wr = w.drewN m) (fun s6 _ _ _ => n + 64 - (intOf s6).toNat)
    case atStart => 
      refine ⟨k + 1, by go_num, by omega, by omega, ?_, ?_, m0, rfl⟩
      · show ∀ j, k < j → j ≤ k + 1 → j ≤ n → X < Lp.ex f j
        intro j j1 j2 _
        rw [show j = k + 1 from by omega, HO.out]; omega
      · rw [show min (k + 1) n = k + 1 from by omega, HO.out]
    case round =>
      obtain ⟨a, rfl, hka, han, hinv, rfl, m, rfl⟩ := hrel
      by_cases hlt : a < n
      · have hq : a / 64 < nw n := by unfold nw; omega
        have e1 := HW.out _ hq
        have e3 := HL.out _ hq
        have hqi : (a : Int) / 64 < (nw n : Int) := by omega
        rw [show min a n = a from by omega]
        have hY := hinv a hka (Nat.le_refl _) (by omega)
        have hYb := Lp.ex_bound f a
        have hbit := HB.out _ hq (a % 64) (by omega)
        rw [show 64 * (a / 64) + a % 64 = a from by omega] at hbit
        have hsh : ∀ x : BitVec 64, U x / (2 : Int) ^ (a % 64) = U (x >>> (a % 64)) := fun x => U_shr x _
        by_cases hskip : a % 64 = 0 ∧ X < ls (a / 64)
        · obtain ⟨hs1, hs2⟩ := hskip
          have ht : ((a : Int) % 64 == 0) = true := by simp; omega
          generalize hYe : Lp.ex f a = Y at *
          have HYE := Lib.hid hYe
          have hx2 : exI f n ((a : Int) + 64) = Lp.ex f (min (a + 64) n) := by unfold exI; rw [show (max 0 (min ((a : Int) + 64) n)).toNat = min (a + 64) n from by omega]
          have HX2 := Lib.hid hx2
          clear hYe hx2 hbit
          go_wp2_with fail
          refine (HEX.out _ _ (HV.out.drewN _)).mono ?_
          rintro e w' ⟨rfl, m1, rfl⟩
          rw [HX2.out]
          go_wp2
          go_roundw
          case rel =>
            refine ⟨a + 64, by go_num, by omega, by omega, ?_, rfl, _, rfl⟩
            show ∀ j, k < j → j ≤ a + 64 → j ≤ n → X < Lp.ex f j
            intro j j1 j2 j3
            by_cases hja : j ≤ a
            · exact hinv j j1 hja j3
            · have := HLO.out _ hq j (by omega) (by omega) j3
              omega
          case measure => simp [intOf]; omega
        · have hsk : (a % 64 = 0) → ¬ X < ls (a / 64) := fun h1 h2 => hskip ⟨h1, h2⟩
          have hsucc : (f a = true → Lp.ex f (a + 1) = Lp.ex f a + 1) ∧ (f a = false → Lp.ex f (a + 1) = Lp.ex f a - 1) := ⟨Lp.ex_open, Lp.ex_shut⟩
          have HSUCC := Lib.hid hsucc
          clear hsucc hskip
          generalize hYe : Lp.ex f a = Y at *
          have HYE := Lib.hid hYe
          clear hYe
          have hstay : ∀ Z : Int, X < Z → Lp.ex f (a + 1) = Z → ∀ j, k < j → j ≤ a + 1 → j ≤ n → X < Lp.ex f j := by
            intro Z z1 z2 j j1 j2 j3
            by_cases hja : j ≤ a
            · exact hinv j j1 hja j3
            · rw [show j = a + 1 from by omega, z2]; exact z1
          have HSTAY := Lib.hid hstay
          clear hstay
          have hmin : min (a + 1) n = a + 1 := by omega
          have HMIN := Lib.hid hmin
          clear hmin
          cases hfa : f a
          · have hb0 := bit_zero (xs (a / 64)) (a % 64) (by rw [hbit, hfa])
            have hs := HSUCC.out.2 hfa
            have HS := Lib.hid hs
            clear hs hbit hfa
            by_cases hend : Y - 1 = X
            · have hcl : Lp.closeD f n k = (a : Int) := Lp.closeD_some HF.out hka hlt (by rw [HS.out, HX.out, hend]) (by intro j j1 j2; rw [HX.out]; exact hinv j j1 j2 (by omega))
              have HCL := Lib.hid hcl
              obtain rfl : Y = X + 1 := by omega
              clear hcl hend
              by_cases h64 : a % 64 = 0
              all_goals
                first | (have ht : ((a : Int) % 64 == 0) = true := beq_iff_eq.2 (by omega)) | (have ht : ((a : Int) % 64 == 0) = false := beq_eq_false_iff_ne.2 (by omega))
                try (have hls := hsk h64)
                try (rw [h64, BitVec.ushiftRight_zero] at hb0)
                go_wp2
                try rw [Exit.noGoto_ret]
                go_ret
                exact ⟨by rw [HCL.out]; rfl, _, rfl⟩
            · have hne : (Y - 1 == X) = false := by simp; omega
              by_cases h64 : a % 64 = 0
              all_goals
                first | (have ht : ((a : Int) % 64 == 0) = true := beq_iff_eq.2 (by omega)) | (have ht : ((a : Int) % 64 == 0) = false := beq_eq_false_iff_ne.2 (by omega))
                try (have hls := hsk h64)
                try (rw [h64, BitVec.ushiftRight_zero] at hb0)
                go_wp2
                go_roundw
                case rel => exact ⟨a + 1, by go_num, by omega, by omega, HSTAY.out (Y - 1) (by omega) HS.out, by rw [HMIN.out, HS.out] <;> first | rfl | go_num | (congr 1; omega), _, rfl⟩
                case measure => simp [intOf]; omega
          · have hb1' := bit_one (xs (a / 64)) (a % 64) (by rw [hbit, hfa])
            have hs := HSUCC.out.1 hfa
            have HS := Lib.hid hs
            clear hs hbit hfa
            have hne : (Y + 1 == X) = false := by simp; omega
            by_cases h64 : a % 64 = 0
            all_goals
              first | (have ht : ((a : Int) % 64 == 0) = true := beq_iff_eq.2 (by omega)) | (have ht : ((a : Int) % 64 == 0) = false := beq_eq_false_iff_ne.2 (by omega))
              try (have hls := hsk h64)
              try (rw [h64, BitVec.ushiftRight_zero] at hb1')
              go_wp2
              go_roundw
              case rel => exact ⟨a + 1, by go_num, by omega, by omega, HSTAY.out (Y + 1) (by omega) HS.out, by rw [HMIN.out, HS.out] <;> first | rfl | go_num | (congr 1; omega), _, rfl⟩
              case measure => simp [intOf]; omega
      · have hcl : Lp.closeD f n k = -1 := Lp.closeD_none fun j j1 j2 => by rw [HX.out]; exact hinv j j1 (by omega) j2
        have HCL := Lib.hid hcl
        clear hcl
        go_wp2
        try rw [Exit.noGoto_ret]
        go_ret
        exact ⟨by rw [HCL.out]; rfl, _, rfl⟩
  · have h0' : opB f n i = false := by simpa using h0
    have hr : closeI f n i = -1 := by rw [closeI, if_neg h0]
    have HR := Lib.hid hr
    have HI := Lib.hid h0'
    clear h h0 h0' hr
    go_enter Tryd.func22, Tryd.ntmps22
    go_wp2_with fail
    go_step3
    go_wp2_with fail
    refine (opens_any _ n f _ _ HV.out).mono ?_
    rintro e w' ⟨rfl, rfl⟩
    rw [HI.out]
    go_wp2
    try rw [Exit.noGoto_ret]
    go_ret
    exact ⟨by rw [HR.out]; rfl, 0, rfl⟩
end Go.Proofs.YtldjemekncfmeaaDoor
