/-
  A vector's Open: what each call returns. For every vector of at most 2^50 bits, nil too, and every place; nothing is written.
-/
import Derived.Test.YtldjemekncfmeaaDoorVecc
namespace Go.Proofs.YtldjemekncfmeaaDoor
open Go.RowKit

/-- the bracket that opens the one at a place; -1 -/
def openI (f : Nat → Bool) (n : Nat) (i : Int) : Int := if inB n i && !opB f n i then Lp.openD f n i.toNat else -1

theorem openD_some {f : Nat → Bool} {n i k : Nat} (hi : i < n) (hf : f i = false) (hk : k < i) (h1 : f k = true) (h2 : Lp.ex f k = Lp.ex f (i + 1)) (h : ∀ j, k < j → j < i → ¬ (f j = true ∧ Lp.ex f j = Lp.ex f (i + 1))) : Lp.openD f n i = (k : Int) := by
  rw [Lp.openD, if_pos ⟨hi, hf⟩]
  refine Lp.greatestD_some hk (by simp [h1, h2]) fun j j1 j2 => ?_
  have := h j j1 j2
  simp only [Bool.and_eq_false_iff, beq_eq_false_iff_ne]
  by_cases hj : f j = true
  · exact .inr fun e => this ⟨hj, e⟩
  · exact .inl (by simpa using hj)
theorem openD_none {f : Nat → Bool} {n i : Nat} (hi : i < n) (hf : f i = false) (h : ∀ j, j < i → ¬ (f j = true ∧ Lp.ex f j = Lp.ex f (i + 1))) : Lp.openD f n i = -1 := by
  rw [Lp.openD, if_pos ⟨hi, hf⟩]
  refine Lp.greatestD_none fun j j2 => ?_
  have := h j j2
  simp only [Bool.and_eq_false_iff, beq_eq_false_iff_ne]
  by_cases hj : f j = true
  · exact .inr fun e => this ⟨hj, e⟩
  · exact .inl (by simpa using hj)

set_option maxRecDepth 100000 in
set_option maxHeartbeats 4000000 in
theorem open_any (p : Option Addr) (n : Nat) (f : Nat → Bool) (i : Int) (w : World) (h : Vec w p n f) :
    Calls Tryd.prog 24 #[.pointer p, .int .i64 i] w (Ret (.int .i64 (openI f n i)) w) := by
  have HV := Lib.hid h
  by_cases hin0 : inB n i = true
  · by_cases hop0 : opB f n i = true
    · have hr : openI f n i = -1 := by rw [openI, hin0, hop0]; rfl
      have HR := Lib.hid hr
      have HI := Lib.hid hin0
      have HO := Lib.hid hop0
      clear h hin0 hop0 hr
      go_enter Tryd.func24, Tryd.ntmps24
      go_wp2_with fail
      refine (in_any _ n f _ _ HV.out).mono ?_
      rintro e w' ⟨rfl, rfl⟩
      rw [HI.out]
      go_wp2_with fail
      refine (opens_any _ n f _ _ HV.out).mono ?_
      rintro e w' ⟨rfl, rfl⟩
      rw [HO.out]
      go_wp2
      try rw [Exit.noGoto_ret]
      go_ret
      exact ⟨by rw [HR.out]; rfl, 0, rfl⟩
    · have hop1 : opB f n i = false := by simpa using hop0
      have hh := hin0
      simp only [inB, Bool.and_eq_true, decide_eq_true_eq] at hh
      obtain ⟨hi0, hin⟩ := hh
      obtain ⟨k, rfl⟩ := Int.eq_ofNat_of_zero_le hi0
      have hfk : f k = false := by rw [opB, hin0] at hop1; simpa using hop1
      obtain ⟨hn, hz, ⟨rfl, rfl⟩ | ⟨g, Aw, Ar, Al, Am, cw, cr, cl, cm, xs, ls, ms, rfl, v⟩⟩ := h
      · omega
      have hkn : k < n := by omega
      have hW : 0 < nw n := by unfold nw; omega
      obtain ⟨bw, ow, rfl, hw⟩ := v.s1.at hW
      obtain ⟨bl, ol, rfl, hl⟩ := v.s3.at hW
      obtain ⟨bm, om, rfl, hm⟩ := v.s4.at hW
      have c1 := v.c1
      have c3 := v.c3
      have c4 := v.c4
      have hlo := v.lo
      have hbits := v.bits
      have hr : openI f n (k : Int) = Lp.openD f n k := by rw [openI, hin0, hop1]; rfl
      rw [hr]
      have hexk : exI f n ((k : Int) + 1) = Lp.ex f (k + 1) := by unfold exI; rw [show (max 0 (min ((k : Int) + 1) n)).toNat = k + 1 from by omega]
      have hexk0 : exI f n (k : Int) = Lp.ex f k := by unfold exI; rw [show (max 0 (min (k : Int) n)).toNat = k from by omega]
      have hbk := Lp.ex_bound f (k + 1)
      have hbk0 := Lp.ex_bound f k
      generalize hX : Lp.ex f (k + 1) = X at *
      have HX := Lib.hid hX
      have HE := Lib.hid hexk
      have HE0 := Lib.hid hexk0
      have HI := Lib.hid hin0
      have HO := Lib.hid hop1
      have HW := Lib.hid hw
      have HL := Lib.hid hl
      have HM := Lib.hid hm
      have HLO := Lib.hid hlo
      have HB := Lib.hid hbits
      have HF := Lib.hid hfk
      have HZ := Lib.hid hz
      obtain ⟨hb1, hb2⟩ := hbk
      obtain ⟨hb3, hb4⟩ := hbk0
      clear v hr hexk hexk0 hX hw hl hm hlo hbits hfk hin0 hop0 hop1 hz
      have hexc : ∀ (W : World) (i : Int), Vec W (some ⟨g, 0, none⟩) n f → Calls Tryd.prog 18 #[.pointer (some ⟨g, 0, none⟩), .int .i64 i] W (Ret (.int .i64 (exI f n i)) W) := fun W i hW => excess_any _ n f i W hW
      have HEX := Lib.hid hexc
      clear hexc
      go_enter Tryd.func24, Tryd.ntmps24
      go_wp2_with fail
      refine (in_any _ n f _ _ HV.out).mono ?_
      rintro e w' ⟨rfl, rfl⟩
      rw [HI.out]
      go_wp2_with fail
      refine (opens_any _ n f _ _ HV.out).mono ?_
      rintro e w' ⟨rfl, rfl⟩
      rw [HO.out]
      go_wp2_with fail
      refine (HEX.out _ _ HV.out).mono ?_
      rintro e w' ⟨rfl, m0, rfl⟩
      rw [HE.out]
      go_wp2_with fail
      refine (HEX.out _ _ (HV.out.drewN _)).mono ?_
      rintro e w' ⟨rfl, m1, rfl⟩
      rw [HE0.out]
      go_wp2
      go_loopw [6, 7, 8, 9] (fun s6 s7 _ _ wr => ∃ a : Nat, s6 = .int .i64 a ∧ a ≤ k ∧ Hid (∀ j, a ≤ j → j < k → ¬ (f j = true ∧ Lp.ex f j = X)) ∧ s7 = .int .i64 (Lp.ex f a) ∧ ∃ m, wr = w.drewN m) (fun s6 _ _ _ _ => (intOf s6).toNat)
      case atStart =>
        refine ⟨k, by go_num, by omega, ?_, rfl, _, rfl⟩
        show ∀ j, k ≤ j → j < k → ¬ (f j = true ∧ Lp.ex f j = X)
        intro j j1 j2; omega
      case round =>
        obtain ⟨a, rfl, hak, hinv, rfl, m, rfl⟩ := hrel
        rcases a with _ | b
        · have hcl : Lp.openD f n k = -1 := openD_none hkn HF.out fun j j2 => by rw [HX.out]; exact hinv j (by omega) j2
          have HCL := Lib.hid hcl
          clear hcl
          go_wp2
          try rw [Exit.noGoto_ret]
          go_ret
          exact ⟨by rw [HCL.out]; rfl, _, rfl⟩
        · have hq : b / 64 < nw n := by unfold nw; omega
          have e1 := HW.out _ hq
          have e3 := HL.out _ hq
          have e4 := HM.out _ hq
          have hqi : (b : Int) / 64 < (nw n : Int) := by omega
          have hYb := Lp.ex_bound f b
          have hbit := HB.out _ hq (b % 64) (by omega)
          rw [show 64 * (b / 64) + b % 64 = b from by omega] at hbit
          have hsh : ∀ x : BitVec 64, U x / (2 : Int) ^ (b % 64) = U (x >>> (b % 64)) := fun x => U_shr x _
          have hpos : (0 : Int) < (b : Int) + 1 := by omega
          have hx2 : 64 ≤ b + 1 → exI f n ((b : Int) + 1 - 64) = Lp.ex f (b + 1 - 64) := by intro h64; unfold exI; rw [show (max 0 (min ((b : Int) + 1 - 64) n)).toNat = b + 1 - 64 from by omega]
          have hcase : ((b + 1) % 64 = 0 ∧ 64 ≤ b + 1 ∧ Lp.ex f (b + 1 - 64) ≠ X ∧ (X < ls (b / 64) ∨ (ls (b / 64) ≤ X ∧ ms (b / 64) < X))) ∨
              ((b + 1) % 64 ≠ 0 ∨ ((b + 1) % 64 = 0 ∧ ls (b / 64) ≤ X ∧ X ≤ ms (b / 64)) ∨ ((b + 1) % 64 = 0 ∧ 64 ≤ b + 1 ∧ Lp.ex f (b + 1 - 64) = X ∧ (X < ls (b / 64))) ∨ ((b + 1) % 64 = 0 ∧ 64 ≤ b + 1 ∧ Lp.ex f (b + 1 - 64) = X ∧ ls (b / 64) ≤ X ∧ ms (b / 64) < X)) := by omega
          rcases hcase with ⟨h64, hge, hne, hout⟩ | hcase
          · have ht : ((b : Int) + 1) % 64 = 0 := by omega
            have hx2' := hx2 hge
            have HX2 := Lib.hid hx2'
            have hnew : ∀ j, b + 1 - 64 ≤ j → j < k → ¬ (f j = true ∧ Lp.ex f j = X) := by
              intro j j1 j2
              by_cases hja : b + 1 ≤ j
              · exact hinv j hja j2
              · by_cases hj0 : j = b + 1 - 64
                · subst hj0; exact fun ⟨_, e⟩ => hne e
                · have := HLO.out _ hq j (by omega) (by omega) (by omega)
                  rintro ⟨_, e⟩
                  omega
            have HNEW := Lib.hid hnew
            clear hx2 hx2' hnew hbit hinv
            generalize Lp.ex f (b + 1) = Y at *
            generalize hT : Lp.ex f (b + 1 - 64) = T at *
            have HT := Lib.hid hT
            clear hT
            have htx : (T == X) = false := beq_eq_false_iff_ne.2 hne
            rcases hout with h1 | ⟨h1, h2⟩
            all_goals
              go_wp2_with (go_at_call 18; refine (HEX.out _ _ (HV.out.drewN _)).mono ?_; rintro e w' ⟨rfl, m1, rfl⟩; rw [HX2.out])
              go_roundw
              case rel => exact ⟨b + 1 - 64, by go_num, by omega, HNEW.out, by rw [HT.out], _, rfl⟩
              case measure => simp [intOf]; omega
          · have hsucc : (f b = true → Lp.ex f (b + 1) = Lp.ex f b + 1) ∧ (f b = false → Lp.ex f (b + 1) = Lp.ex f b - 1) := ⟨Lp.ex_open, Lp.ex_shut⟩
            have hcl : f b = true ∧ Lp.ex f b = X → Lp.openD f n k = (b : Int) := fun ⟨e1, e2⟩ => openD_some hkn HF.out (by omega) e1 (by rw [HX.out, e2]) fun j j1 j2 => by rw [HX.out]; exact hinv j j1 j2
            have hnew : ¬ (f b = true ∧ Lp.ex f b = X) → ∀ j, b ≤ j → j < k → ¬ (f j = true ∧ Lp.ex f j = X) := by
              intro h j j1 j2
              by_cases hj : j = b
              · subst hj; exact h
              · exact hinv j (by omega) j2
            generalize hYe : Lp.ex f b = Y at *
            have HYE := Lib.hid hYe
            clear hYe
            have hcases : (f b = true ∧ Y = X) ∨ (f b = true ∧ Y ≠ X) ∨ (f b = false ∧ Y = X) ∨ (f b = false ∧ Y ≠ X) := by
              cases f b
              · by_cases e : Y = X
                · exact .inr (.inr (.inl ⟨rfl, e⟩))
                · exact .inr (.inr (.inr ⟨rfl, e⟩))
              · by_cases e : Y = X
                · exact .inl ⟨rfl, e⟩
                · exact .inr (.inl ⟨rfl, e⟩)
            rcases hcases with ⟨hfb, rfl⟩ | hcases
            · have hb1' := bit_one (xs (b / 64)) (b % 64) (by rw [hbit, hfb])
              have hCL := hcl ⟨hfb, rfl⟩
              have hs := hsucc.1 hfb
              have HCL := Lib.hid hCL
              clear hcl hnew hCL hsucc hbit hfb hinv
              rw [hs]
              clear hs
              rcases hcase with h64 | ⟨h64, h1, h2⟩ | ⟨h64, hge, hX2, h1⟩ | ⟨h64, hge, hX2, h1, h2⟩
              all_goals
                first | (have ht : ((b : Int) + 1) % 64 = 0 := by omega) | (have ht : (((b : Int) + 1) % 64 == 0) = false := beq_eq_false_iff_ne.2 (by omega))
                try (have HX2 := Lib.hid ((hx2 hge).trans hX2); clear hX2)
                clear hx2
                go_wp2_with (go_at_call 18; refine (HEX.out _ _ (HV.out.drewN _)).mono ?_; rintro e w' ⟨rfl, m1, rfl⟩; rw [HX2.out])
                try rw [Exit.noGoto_ret]
                go_ret
                exact ⟨by rw [HCL.out] <;> rfl, _, rfl⟩
            · have hno : ¬ (f b = true ∧ Y = X) := by
                rcases hcases with ⟨_, e⟩ | ⟨e, _⟩ | ⟨e, _⟩
                · exact fun ⟨_, e'⟩ => e e'
                · rw [e]; exact fun ⟨e', _⟩ => by cases e'
                · rw [e]; exact fun ⟨e', _⟩ => by cases e'
              have HNEW := Lib.hid (hnew hno)
              clear hcl hnew hno
              rcases hcases with ⟨hfb, hYX⟩ | ⟨hfb, hYX⟩ | ⟨hfb, hYX⟩
              all_goals
                first
                  | (have hb1' := bit_one (xs (b / 64)) (b % 64) (by rw [hbit, hfb])
                     have hs := hsucc.1 hfb)
                  | (have hb0 := bit_zero (xs (b / 64)) (b % 64) (by rw [hbit, hfb])
                     have hs := hsucc.2 hfb)
                clear hsucc hbit hfb
                rw [hs]
                clear hs
                first | (have hyx : (Y == X) = true := beq_iff_eq.2 hYX) | (have hyx : (Y == X) = false := beq_eq_false_iff_ne.2 hYX)
                clear hYX
                rcases hcase with h64 | ⟨h64, h1, h2⟩ | ⟨h64, hge, hX2, h1⟩ | ⟨h64, hge, hX2, h1, h2⟩
                all_goals
                  first | (have ht : ((b : Int) + 1) % 64 = 0 := by omega) | (have ht : (((b : Int) + 1) % 64 == 0) = false := beq_eq_false_iff_ne.2 (by omega))
                  try (have HX2 := Lib.hid ((hx2 hge).trans hX2); clear hX2)
                  clear hx2 hinv
                  go_wp2_with (go_at_call 18; refine (HEX.out _ _ (HV.out.drewN _)).mono ?_; rintro e w' ⟨rfl, m1, rfl⟩; rw [HX2.out])
                  go_roundw
                  case rel => exact ⟨b, by go_num, by omega, HNEW.out, by rw [HYE.out] <;> first | rfl | go_num | (congr 1; omega), _, rfl⟩
                  case measure => simp [intOf] <;> omega
  · have h0' : inB n i = false := by simpa using hin0
    have hr : openI f n i = -1 := by rw [openI, h0']; rfl
    have HR := Lib.hid hr
    have HI := Lib.hid h0'
    clear h hin0 h0' hr
    go_enter Tryd.func24, Tryd.ntmps24
    go_wp2_with fail
    refine (in_any _ n f _ _ HV.out).mono ?_
    rintro e w' ⟨rfl, rfl⟩
    rw [HI.out]
    go_wp2
    try rw [Exit.noGoto_ret]
    go_ret
    exact ⟨by rw [HR.out]; rfl, 0, rfl⟩
end Go.Proofs.YtldjemekncfmeaaDoor
