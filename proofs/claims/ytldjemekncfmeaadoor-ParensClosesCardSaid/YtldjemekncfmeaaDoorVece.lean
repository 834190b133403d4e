/-
  A vector's Enclose, Size, Child: what each call returns. For every vector of at most 2^50 bits, nil too, and every place; nothing is written.
-/
import Derived.Test.YtldjemekncfmeaaDoorVecd
namespace Go.Proofs.YtldjemekncfmeaaDoor
open Go.RowKit

theorem closeI_nat (f : Nat → Bool) (n k : Nat) : closeI f n (k : Int) = Lp.closeD f n k := by
  unfold closeI opB inB
  by_cases h : k < n ∧ f k = true
  · have h1 : (k : Int) < n := by omega
    simp [h.2, h1]
  · rw [Lp.closeD_shut h]
    by_cases h1 : k < n
    · have h2 : ¬ f k = true := fun e => h ⟨h1, e⟩
      simp [h2]
    · have h2 : ¬ (k : Int) < n := by omega
      simp [h2]
theorem closeI_neg (f : Nat → Bool) (n : Nat) (i : Int) (h : i < 0) : closeI f n i = -1 := by
  unfold closeI opB inB
  rw [if_neg]
  simp; omega
theorem opB_nat (f : Nat → Bool) (n k : Nat) (h : k < n) : opB f n (k : Int) = f k := by
  unfold opB inB
  simp; omega

/-- the bracket of the pair that a bracket stands in; -1 -/
def enclI (f : Nat → Bool) (n : Nat) (i : Int) : Int := if inB n i then Lp.enclD f n i.toNat else -1
def EncP (f : Nat → Bool) (n k : Nat) (j : Nat) : Prop := f j = true ∧ (k : Int) < Lp.closeD f n j ∧ Lp.closeD f n k < Lp.closeD f n j
theorem enclD_some {f : Nat → Bool} {n k j : Nat} (hk : k < n) (hj : j < k) (h : EncP f n k j) (hall : ∀ i, j < i → i < k → ¬ EncP f n k i) : Lp.enclD f n k = (j : Int) := by
  rw [Lp.enclD, if_pos hk]
  refine Lp.greatestD_some hj (by simp [h.1, h.2.1, h.2.2]) fun i i1 i2 => ?_
  have := hall i i1 i2
  cases hb : (f i && decide ((k : Int) < Lp.closeD f n i) && decide (Lp.closeD f n k < Lp.closeD f n i))
  · rfl
  · simp only [Bool.and_eq_true, decide_eq_true_eq] at hb
    exact absurd ⟨hb.1.1, hb.1.2, hb.2⟩ this
theorem enclD_none {f : Nat → Bool} {n k : Nat} (hk : k < n) (hall : ∀ i, i < k → ¬ EncP f n k i) : Lp.enclD f n k = -1 := by
  rw [Lp.enclD, if_pos hk]
  refine Lp.greatestD_none fun i i2 => ?_
  have := hall i i2
  cases hb : (f i && decide ((k : Int) < Lp.closeD f n i) && decide (Lp.closeD f n k < Lp.closeD f n i))
  · rfl
  · simp only [Bool.and_eq_true, decide_eq_true_eq] at hb
    exact absurd ⟨hb.1.1, hb.1.2, hb.2⟩ this
/-- behind a closed pair nothing encloses -/
theorem enc_skip {f : Nat → Bool} {n k o b : Nat} (hb : b < k) (h : Lp.closeD f n o = (b : Int)) (j : Nat) (h1 : o ≤ j) (h2 : j ≤ b) : ¬ EncP f n k j := by
  rintro ⟨e1, e2, e3⟩
  by_cases hj : j = o
  · subst hj; omega
  · obtain ⟨d, hd, _, _⟩ := Lp.close_within h (by omega) h2 e1
    omega

set_option maxRecDepth 100000 in
set_option maxHeartbeats 4000000 in
theorem enclose_any (p : Option Addr) (n : Nat) (f : Nat → Bool) (i : Int) (w : World) (h : Vec w p n f) :
    Calls Tryd.prog 26 #[.pointer p, .int .i64 i] w (Ret (.int .i64 (enclI f n i)) w) := by
  have HV := Lib.hid h
  have hn := h.1
  by_cases hin0 : inB n i = true
  · have hh := hin0
    simp only [inB, Bool.and_eq_true, decide_eq_true_eq] at hh
    obtain ⟨hi0, hin⟩ := hh
    obtain ⟨k, rfl⟩ := Int.eq_ofNat_of_zero_le hi0
    have hkn : k < n := by omega
    have hr : enclI f n (k : Int) = Lp.enclD f n k := by rw [enclI, hin0]; rfl
    rw [hr]
    have hc := closeI_nat f n k
    have hcs : Lp.closeD f n k = -1 ∨ (k : Int) < Lp.closeD f n k := by
      rcases Lp.closeD_is f n k with ⟨e, _⟩ | ⟨c, h1, h2, _⟩
      · exact .inl e
      · right; omega
    have hcb := Lp.closeD_lo f n k
    generalize hE : Lp.closeD f n k = E at *
    have HE := Lib.hid hE
    have HC := Lib.hid hc
    have HI := Lib.hid hin0
    have hclose : ∀ (W : World) (i : Int), Vec W p n f → Calls Tryd.prog 22 #[.pointer p, .int .i64 i] W (Ret (.int .i64 (closeI f n i)) W) := fun W i hW => close_any _ n f i W hW
    have HCLOSE := Lib.hid hclose
    obtain ⟨hcb1, hcb2⟩ := hcb
    clear hE hc hr hin0 h hclose
    obtain ⟨M, hM⟩ : ∃ M : Int, M = max (k : Int) E := ⟨_, rfl⟩
    have hs : ((E = -1 ∧ E < k ∧ M = k) ∨ (k < E ∧ M = E)) := by omega
    clear hM hcs
    have HP : Hid (∀ j, M < Lp.closeD f n j → (k : Int) < Lp.closeD f n j ∧ E < Lp.closeD f n j) := Lib.hid (fun j hj => by omega)
    have HP2 : Hid (∀ j, EncP f n k j → M < Lp.closeD f n j) := Lib.hid (fun j ⟨_, h1, h2⟩ => by rw [HE.out] at h2; omega)
    rcases hs with ⟨rfl, hs, hM⟩ | ⟨hs, hM⟩
    all_goals
      have HM := Lib.hid hM
      clear hM
      go_enter Tryd.func26, Tryd.ntmps26
      go_wp2_with fail
      refine (in_any _ n f _ _ HV.out).mono ?_
      rintro e w' ⟨rfl, rfl⟩
      rw [HI.out]
      go_wp2_with fail
      refine (HCLOSE.out _ _ HV.out).mono ?_
      rintro e w' ⟨rfl, m0, rfl⟩
      rw [HC.out]
      go_wp2
      go_loopw [6, 7] (fun s6 _ wr => ∃ a : Nat, s6 = .int .i64 ((a : Int) - 1) ∧ a ≤ k ∧ Hid (∀ j, a ≤ j → j < k → ¬ EncP f n k j) ∧ ∃ m, wr = w.drewN m) (fun s6 _ _ => (intOf s6 + 1).toNat)
      case atStart =>
        refine ⟨k, by go_num, by omega, ?_, _, rfl⟩
        show ∀ j, k ≤ j → j < k → ¬ EncP f n k j
        intro j j1 j2; omega
      case round =>
        obtain ⟨a, rfl, hak, hinv, m, rfl⟩ := hrel
        rcases a with _ | b
        · have hcl : Lp.enclD f n k = -1 := enclD_none hkn fun j j2 => hinv j (by omega) j2
          have HCL := Lib.hid hcl
          clear hcl
          go_wp2
          try rw [Exit.noGoto_ret]
          go_ret
          exact ⟨by rw [HCL.out] <;> rfl, _, rfl⟩
        · rw [show ((b + 1 : Nat) : Int) - 1 = (b : Int) from by omega]
          have hbn : b < n := by omega
          have hob := opB_nat f n b hbn
          have HV2 := Lib.hid (HV.out.drewN m)
          by_cases hfb : f b = true
          · rw [hfb] at hob
            have HOB := Lib.hid hob
            clear hob
            have hcb := closeI_nat f n b
            obtain ⟨C, hC⟩ : ∃ C : Int, C = Lp.closeD f n b := ⟨_, rfl⟩
            have hcb2 := Lp.closeD_lo f n b
            rw [← hC] at hcb hcb2
            have HCB := Lib.hid hcb
            obtain ⟨hc1, hc2⟩ := hcb2
            clear hcb
            by_cases hMC : M < C
            · have hp := HP.out b (by rw [← hC]; exact hMC)
              have hcl : Lp.enclD f n k = (b : Int) := enclD_some hkn (by omega) ⟨hfb, hp.1, by rw [HE.out]; exact hp.2⟩ fun j j1 j2 => hinv j j1 j2
              have HCL := Lib.hid hcl
              clear hcl hp hC hfb hinv
              have hq1 : (k : Int) < C := by have := HM.out; omega
              try (have hq2 : E < C := by have := HM.out; omega)
              clear hMC
              go_wp2_with fail
              refine (opens_any _ n f _ _ HV2.out).mono ?_
              rintro e w' ⟨rfl, rfl⟩
              rw [HOB.out]
              go_wp2_with fail
              refine (HCLOSE.out _ _ HV2.out).mono ?_
              rintro e w' ⟨rfl, m1, rfl⟩
              rw [HCB.out]
              go_wp2
              try rw [Exit.noGoto_ret]
              go_ret
              exact ⟨by rw [HCL.out] <;> rfl, _, rfl⟩
            · have hnew : ∀ j, b ≤ j → j < k → ¬ EncP f n k j := by
                intro j j1 j2
                by_cases hj : j = b
                · subst hj; exact fun e => hMC (by rw [hC]; exact HP2.out _ e)
                · exact hinv j (by omega) j2
              have HNEW := Lib.hid hnew
              clear hnew hC hfb hinv
              first | (have hq1 : ¬ (k : Int) < C := by have := HM.out; omega) | (have hq2 : ¬ E < C := by have := HM.out; omega)
              clear hMC
              go_wp2_with fail
              refine (opens_any _ n f _ _ HV2.out).mono ?_
              rintro e w' ⟨rfl, rfl⟩
              rw [HOB.out]
              go_wp2_with fail
              refine (HCLOSE.out _ _ HV2.out).mono ?_
              rintro e w' ⟨rfl, m1, rfl⟩
              rw [HCB.out]
              go_wp2
              go_roundw
              case rel => exact ⟨b, by go_num, by omega, HNEW.out, _, rfl⟩
              case measure => simp [intOf] <;> omega
          · have hfb' : f b = false := by simpa using hfb
            rw [hfb'] at hob
            have HOB := Lib.hid hob
            have hoi : openI f n (b : Int) = Lp.openD f n b := by rw [openI, hob, show inB n (b : Int) = true from by unfold inB; simp; omega]; rfl
            have hnew : ∀ j, b ≤ j → j < k → ¬ EncP f n k j := by
              intro j j1 j2
              by_cases hj : j = b
              · subst hj; exact fun e => hfb e.1
              · exact hinv j (by omega) j2
            have hos : Lp.openD f n b = -1 ∨ ∃ o : Nat, o < b ∧ Lp.openD f n b = (o : Int) := by
              rw [Lp.openD, if_pos ⟨hbn, hfb'⟩]
              rcases Lp.greatestD_cases (fun k => f k && Lp.ex f k == Lp.ex f (b + 1)) b with ⟨e, _⟩ | ⟨o, h1, h2, _⟩
              · exact .inl e
              · exact .inr ⟨o, h1, h2⟩
            clear hob hfb hfb'
            rcases hos with ho | ⟨o, ho1, ho⟩
            · rw [ho] at hoi
              have HOI := Lib.hid hoi
              have HNEW := Lib.hid hnew
              clear hnew hinv ho hoi
              go_wp2_with fail
              refine (opens_any _ n f _ _ HV2.out).mono ?_
              rintro e w' ⟨rfl, rfl⟩
              rw [HOB.out]
              go_wp2_with fail
              refine (open_any _ n f _ _ HV2.out).mono ?_
              rintro e w' ⟨rfl, m1, rfl⟩
              rw [HOI.out]
              go_wp2
              go_roundw
              case rel => exact ⟨b, by go_num, by omega, HNEW.out, _, rfl⟩
              case measure => simp [intOf] <;> omega
            · rw [ho] at hoi
              have HOI := Lib.hid hoi
              have hco := closeI_nat f n o
              by_cases hm : Lp.closeD f n o = (b : Int)
              · have hskip : ∀ j, o ≤ j → j < k → ¬ EncP f n k j := by
                  intro j j1 j2
                  by_cases hj : j ≤ b
                  · exact enc_skip (by omega) hm j j1 hj
                  · exact hinv j (by omega) j2
                rw [hm] at hco
                have HCO := Lib.hid hco
                have HNEW := Lib.hid hskip
                clear hskip hm hnew hinv ho hoi hco
                go_wp2_with fail
                refine (opens_any _ n f _ _ HV2.out).mono ?_
                rintro e w' ⟨rfl, rfl⟩
                rw [HOB.out]
                go_wp2_with fail
                refine (open_any _ n f _ _ HV2.out).mono ?_
                rintro e w' ⟨rfl, m1, rfl⟩
                rw [HOI.out]
                go_wp2_with fail
                refine (HCLOSE.out _ _ (HV.out.drewN _)).mono ?_
                rintro e w' ⟨rfl, m2, rfl⟩
                rw [HCO.out]
                go_wp2
                go_roundw
                case rel => exact ⟨o, by go_num, by omega, HNEW.out, _, rfl⟩
                case measure => simp [intOf] <;> omega
              · generalize hC : Lp.closeD f n o = C at *
                have hne : (C == (b : Int)) = false := beq_eq_false_iff_ne.2 hm
                have HCO := Lib.hid hco
                have HNEW := Lib.hid hnew
                clear hC hm hnew hinv ho hoi hco
                go_wp2_with fail
                refine (opens_any _ n f _ _ HV2.out).mono ?_
                rintro e w' ⟨rfl, rfl⟩
                rw [HOB.out]
                go_wp2_with fail
                refine (open_any _ n f _ _ HV2.out).mono ?_
                rintro e w' ⟨rfl, m1, rfl⟩
                rw [HOI.out]
                go_wp2_with fail
                refine (HCLOSE.out _ _ (HV.out.drewN _)).mono ?_
                rintro e w' ⟨rfl, m2, rfl⟩
                rw [HCO.out]
                go_wp2
                go_roundw
                case rel => exact ⟨b, by go_num, by omega, HNEW.out, _, rfl⟩
                case measure => simp [intOf] <;> omega
  · have h0' : inB n i = false := by simpa using hin0
    have hr : enclI f n i = -1 := by rw [enclI, h0']; rfl
    have HR := Lib.hid hr
    have HI := Lib.hid h0'
    clear h hin0 h0' hr
    go_enter Tryd.func26, Tryd.ntmps26
    go_wp2_with fail
    refine (in_any _ n f _ _ HV.out).mono ?_
    rintro e w' ⟨rfl, rfl⟩
    rw [HI.out]
    go_wp2
    try rw [Exit.noGoto_ret]
    go_ret
    exact ⟨by rw [HR.out]; rfl, 0, rfl⟩
end Go.Proofs.YtldjemekncfmeaaDoor
