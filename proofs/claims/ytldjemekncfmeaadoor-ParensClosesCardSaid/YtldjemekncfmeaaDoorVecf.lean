/-
  A vector's Size, Child: what each call returns. For every vector of at most 2^50 bits, nil too, and every place; nothing is written.
-/
import Derived.Test.YtldjemekncfmeaaDoorVece
import Derived.Lib.QuoteBits
namespace Go.Proofs.YtldjemekncfmeaaDoor
open Go.RowKit

/-- the pairs of a pair -/
def sizeI (f : Nat → Bool) (n : Nat) (i : Int) : Int := if inB n i then Lp.sizeD f n i.toNat else 0
theorem rankI_nat (f : Nat → Bool) (n k : Nat) (h : k ≤ n) : rankI f n (k : Int) = (Lp.cnt f k : Int) := by
  unfold rankI; rw [show (min (k : Int) (n : Int)).toNat = k from by omega]

set_option maxRecDepth 100000 in
set_option maxHeartbeats 1000000 in
theorem size_any (p : Option Addr) (n : Nat) (f : Nat → Bool) (i : Int) (w : World) (h : Vec w p n f) :
    Calls Tryd.prog 28 #[.pointer p, .int .i64 i] w (Ret (.int .i64 (sizeI f n i)) w) := by
  have HV := Lib.hid h
  have hn := h.1
  clear h
  have hs : (closeI f n i = -1 ∧ sizeI f n i = 0) ∨ ∃ k c : Nat, i = (k : Int) ∧ k < c ∧ c < n ∧ closeI f n i = (c : Int) ∧ sizeI f n i = (Lp.cnt f c : Int) - Lp.cnt f k := by
    by_cases hin : inB n i = true
    · have hh := hin
      simp only [inB, Bool.and_eq_true, decide_eq_true_eq] at hh
      obtain ⟨hi0, hi1⟩ := hh
      obtain ⟨k, rfl⟩ := Int.eq_ofNat_of_zero_le hi0
      rw [closeI_nat]
      rcases Lp.closeD_is f n k with ⟨e, _⟩ | ⟨c, h1, h2, _, h3, _⟩
      · refine .inl ⟨e, ?_⟩
        rw [sizeI, hin, if_pos rfl, Lp.sizeD, Int.toNat_natCast, e]; rfl
      · refine .inr ⟨k, c, rfl, h1, h2, h3, ?_⟩
        rw [sizeI, hin, if_pos rfl, Lp.sizeD, Int.toNat_natCast, h3, if_neg (by omega), Int.toNat_natCast]
    · have h0' : inB n i = false := by simpa using hin
      refine .inl ⟨?_, by rw [sizeI, h0']; rfl⟩
      rw [closeI, opB, h0']; rfl
  rcases hs with ⟨h1, h2⟩ | ⟨k, c, rfl, hkc, hcn, h1, h2⟩
  · have H1 := Lib.hid h1
    rw [h2]
    clear h1 h2
    go_enter Tryd.func28, Tryd.ntmps28
    go_wp2_with fail
    refine (close_any _ n f _ _ HV.out).mono ?_
    rintro e w' ⟨rfl, m0, rfl⟩
    rw [H1.out]
    go_wp2
    try rw [Exit.noGoto_ret]
    go_ret
    exact ⟨rfl, _, rfl⟩
  · have H1 := Lib.hid h1
    have H2 := Lib.hid h2
    have hk := rankI_nat f n k (by omega)
    have hc := rankI_nat f n c (by omega)
    have b1 := Lp.cnt_le f k
    have b2 := Lp.cnt_le f c
    generalize Lp.cnt f k = x at *
    generalize Lp.cnt f c = y at *
    have HK := Lib.hid hk
    have HC := Lib.hid hc
    clear h1 h2 hk hc
    go_enter Tryd.func28, Tryd.ntmps28
    go_wp2_with fail
    refine (close_any _ n f _ _ HV.out).mono ?_
    rintro e w' ⟨rfl, m0, rfl⟩
    rw [H1.out]
    go_wp2_with fail
    refine (rank_any _ n f _ _ (HV.out.drewN _)).mono ?_
    rintro e w' ⟨rfl, m1, rfl⟩
    rw [HC.out]
    go_wp2_with fail
    refine (rank_any _ n f _ _ (HV.out.drewN _)).mono ?_
    rintro e w' ⟨rfl, m2, rfl⟩
    rw [HK.out]
    go_wp2
    try rw [Exit.noGoto_ret]
    go_ret
    exact ⟨by rw [H2.out] <;> rfl, _, rfl⟩

/-! ### Child -/
/-- an int's upper bound -/
structure Fits63 (k : Int) : Prop where
  out : k < 9223372036854775808
theorem i64_down {k t : Nat} (hk : Fits63 (k : Int)) (ht : t < k) : IntKind.i64.wrap ((k : Int) - t - 1) = (k : Int) - (t + 1 : Nat) := by
  have hk := hk.out
  have e : ((k : Int) - t - 1) = ((k - t - 1 : Nat) : Int) := by omega
  rw [e, Go.Lib.wrap_i64_small _ (by omega)]; omega
/-- the k-th pair within -/
def childI (f : Nat → Bool) (n : Nat) (i k : Int) : Int := if inB n i && decide (0 ≤ k) then Lp.childD f n i.toNat k.toNat else -1

/-- a place between the pairs within, t of them behind it -/
def KidSt (f : Nat → Bool) (n i c a t : Nat) : Prop := i < a ∧ a ≤ c ∧ Lp.ex f a = Lp.ex f i + 1 ∧ Lp.cnt (Lp.kid f n i) a = t
theorem kid_start {f : Nat → Bool} {n i c : Nat} (hc : Lp.closeD f n i = (c : Int)) : KidSt f n i c (i + 1) 0 := by
  rcases Lp.closeD_is f n i with ⟨a, _⟩ | ⟨c', a1, a2, a3, a4, a5, a6, a7⟩
  · omega
  obtain rfl : c' = c := by omega
  refine ⟨by omega, by omega, Lp.ex_open a3, ?_⟩
  have h : ∀ m, m ≤ i + 1 → Lp.cnt (Lp.kid f n i) m = 0 := by
    intro m
    induction m with
    | zero => intro _; rfl
    | succ m ih =>
      intro hm
      rw [Lp.cnt, ih (by omega)]
      have : Lp.kid f n i m = false := by unfold Lp.kid; simp; omega
      simp [this]
  exact h _ (Nat.le_refl _)
theorem kid_is {f : Nat → Bool} {n i c a t : Nat} (hc : Lp.closeD f n i = (c : Int)) (h : KidSt f n i c a t) (ha : a < c) : f a = true ∧ Lp.kid f n i a = true := by
  rcases Lp.closeD_is f n i with ⟨a', _⟩ | ⟨c', a1, a2, a3, a4, a5, a6, a7⟩
  · omega
  obtain rfl : c' = c := by omega
  obtain ⟨h1, h2, h3, h4⟩ := h
  have hf : f a = true := by
    cases e : f a
    · have := Lp.ex_shut e
      have := a7 (a + 1) (by omega) (by omega)
      omega
    · rfl
  exact ⟨hf, by rw [Lp.kid_iff hc h1 ha hf, h3]; simp⟩
theorem kid_next {f : Nat → Bool} {n i c a t : Nat} (hc : Lp.closeD f n i = (c : Int)) (h : KidSt f n i c a t) (ha : a < c) : ∃ d : Nat, Lp.closeD f n a = (d : Int) ∧ a < d ∧ d < c ∧ KidSt f n i c (d + 1) (t + 1) := by
  obtain ⟨hf, hk⟩ := kid_is hc h ha
  obtain ⟨h1, h2, h3, h4⟩ := h
  obtain ⟨d, d1, d2, d3⟩ := Lp.close_within hc h1 h2 hf
  rcases Lp.closeD_is f n a with ⟨b, _⟩ | ⟨d', b1, b2, b3, b4, b5, b6, b7⟩
  · omega
  obtain rfl : d' = d := by omega
  refine ⟨d', d1, d2, d3, by omega, by omega, by omega, ?_⟩
  have hall : ∀ m, a + 1 ≤ m → m ≤ d' + 1 → Lp.cnt (Lp.kid f n i) m = t + 1 := by
    intro m
    induction m with
    | zero => intro h _; omega
    | succ m ih =>
      intro m1 m2
      by_cases hm : m = a
      · subst hm; rw [Lp.cnt, h4, hk]; rfl
      · rw [Lp.cnt, ih (by omega) (by omega)]
        have : Lp.kid f n i m = false := by
          cases hfm : f m
          · unfold Lp.kid; simp [hfm]
          · rw [Lp.kid_iff hc (by omega) (by omega) hfm]
            have := b7 m (by omega) (by omega)
            simp; omega
        simp [this]
  exact hall _ (by omega) (Nat.le_refl _)
theorem cnt_lt {p : Nat → Bool} {j c : Nat} (hj : j < c) (h : p j = true) : Lp.cnt p j < Lp.cnt p c := by
  have := Lp.cnt_mono p (show j + 1 ≤ c from hj)
  rw [Lp.cnt, h] at this
  simp at this; omega
theorem kid_end {f : Nat → Bool} {n i c a t k : Nat} (hc : Lp.closeD f n i = (c : Int)) (h : KidSt f n i c a t) (ha : c ≤ a) (hk : t ≤ k) : Lp.childD f n i k = -1 := by
  obtain ⟨h1, h2, h3, h4⟩ := h
  obtain rfl : a = c := by omega
  rw [Lp.childD, hc, if_neg (by omega), Int.toNat_natCast]
  refine Lp.leastD_none fun j hj => ?_
  cases hkid : Lp.kid f n i j
  · rfl
  · have := cnt_lt hj hkid
    simp; omega
theorem kid_found {f : Nat → Bool} {n i c a k : Nat} (hc : Lp.closeD f n i = (c : Int)) (h : KidSt f n i c a k) (ha : a < c) : Lp.childD f n i k = (a : Int) := by
  obtain ⟨hf, hk⟩ := kid_is hc h ha
  obtain ⟨h1, h2, h3, h4⟩ := h
  rw [Lp.childD, hc, if_neg (by omega), Int.toNat_natCast]
  refine Lp.leastD_some ha (by simp [hk, h4]) fun j hj => ?_
  cases hkid : Lp.kid f n i j
  · rfl
  · have := cnt_lt hj hkid
    simp; omega

set_option maxRecDepth 100000 in
set_option maxHeartbeats 1000000 in
theorem child_any (p : Option Addr) (n : Nat) (f : Nat → Bool) (i k : Int) (w : World) (h : Vec w p n f) (hk : Fits63 k) :
    Calls Tryd.prog 30 #[.pointer p, .int .i64 i, .int .i64 k] w (Ret (.int .i64 (childI f n i k)) w) := by
  have HV := Lib.hid h
  have hn := h.1
  have HK := Lib.hid hk
  clear h hk
  have hs : (closeI f n i = -1 ∧ childI f n i k = -1) ∨ (∃ c : Nat, c < n ∧ closeI f n i = (c : Int) ∧ k < 0 ∧ childI f n i k = -1) ∨ ∃ i' k' c : Nat, i = (i' : Int) ∧ k = (k' : Int) ∧ i' < c ∧ c < n ∧ closeI f n i = (c : Int) ∧ Lp.closeD f n i' = (c : Int) ∧ childI f n i k = Lp.childD f n i' k' := by
    by_cases hin : inB n i = true
    · have hh := hin
      simp only [inB, Bool.and_eq_true, decide_eq_true_eq] at hh
      obtain ⟨hi0, hi1⟩ := hh
      obtain ⟨i', rfl⟩ := Int.eq_ofNat_of_zero_le hi0
      rw [closeI_nat]
      rcases Lp.closeD_is f n i' with ⟨e, _⟩ | ⟨c, h1, h2, _, h3, _⟩
      · refine .inl ⟨e, ?_⟩
        rw [childI, hin]
        by_cases hk : 0 ≤ k
        · rw [if_pos (by simp [hk]), Lp.childD, Int.toNat_natCast, e]; rfl
        · rw [if_neg (by simp [hk])]
      · by_cases hk : 0 ≤ k
        · obtain ⟨k', rfl⟩ := Int.eq_ofNat_of_zero_le hk
          exact .inr (.inr ⟨i', k', c, rfl, rfl, h1, h2, h3, h3, by rw [childI, hin, if_pos (by simp)]; rfl⟩)
        · exact .inr (.inl ⟨c, h2, h3, by omega, by rw [childI, if_neg (by simp [hk])]⟩)
    · have h0' : inB n i = false := by simpa using hin
      refine .inl ⟨?_, by rw [childI, h0']; rfl⟩
      rw [closeI, opB, h0']; rfl
  rcases hs with ⟨h1, h2⟩ | ⟨c, hcn, h1, hk0, h2⟩ | ⟨i, k, c, rfl, rfl, hic, hcn, h1, hcl, h2⟩
  · have H1 := Lib.hid h1
    rw [h2]
    clear h1 h2
    go_enter Tryd.func30, Tryd.ntmps30
    go_wp2_with fail
    refine (close_any _ n f _ _ HV.out).mono ?_
    rintro e w' ⟨rfl, m0, rfl⟩
    rw [H1.out]
    go_wp2
    try rw [Exit.noGoto_ret]
    go_ret
    exact ⟨rfl, _, rfl⟩
  · have H1 := Lib.hid h1
    rw [h2]
    clear h1 h2
    go_enter Tryd.func30, Tryd.ntmps30
    go_wp2_with fail
    refine (close_any _ n f _ _ HV.out).mono ?_
    rintro e w' ⟨rfl, m0, rfl⟩
    rw [H1.out]
    go_wp2
    try rw [Exit.noGoto_ret]
    go_ret
    exact ⟨rfl, _, rfl⟩
  · have H1 := Lib.hid h1
    have HCL := Lib.hid hcl
    rw [h2]
    clear h1 h2 hcl
    go_enter Tryd.func30, Tryd.ntmps30
    go_wp2_with fail
    refine (close_any _ n f _ _ HV.out).mono ?_
    rintro e w' ⟨rfl, m0, rfl⟩
    rw [H1.out]
    go_wp2
    go_loopw [2, 8] (fun s2 s8 wr => ∃ a t : Nat, s8 = .int .i64 a ∧ s2 = .int .i64 ((k : Int) - t) ∧ t ≤ k ∧ a ≤ c ∧ Hid (KidSt f n i c a t) ∧ ∃ m, wr = w.drewN m) (fun _ s8 _ => (c + 1) - (intOf s8).toNat)
    case atStart => exact ⟨i + 1, 0, by go_num, by go_num, by omega, by omega, kid_start HCL.out, _, rfl⟩
    case round =>
      obtain ⟨a, t, rfl, rfl, htk, hac, hst, m, rfl⟩ := hrel
      have HST := Lib.hid hst
      clear hst
      by_cases ha : a < c
      · by_cases ht : t < k
        · obtain ⟨d, hd, had, hdc, hst'⟩ := kid_next HCL.out HST.out ha
          have hcd := closeI_nat f n a
          rw [hd] at hcd
          have HCD := Lib.hid hcd
          have HST' := Lib.hid hst'
          have hkt : (0 : Int) < (k : Int) - t := by omega
          have hwr := i64_down HK.out ht
          clear hcd hst' hd
          go_wp2_with fail
          refine (close_any _ n f _ _ (HV.out.drewN _)).mono ?_
          rintro e w' ⟨rfl, m1, rfl⟩
          rw [HCD.out]
          go_wp2
          go_roundw
          case rel => exact ⟨d + 1, t + 1, by go_num, by go_num, by omega, by omega, HST'.out, _, rfl⟩
          case measure => simp [intOf] <;> omega
        · obtain rfl : t = k := by omega
          have hf := kid_found HCL.out HST.out ha
          have HF := Lib.hid hf
          clear hf
          go_wp2
          try rw [Exit.noGoto_ret]
          go_ret
          exact ⟨by rw [HF.out] <;> rfl, _, rfl⟩
      · have hf := kid_end HCL.out HST.out (by omega) htk
        have HF := Lib.hid hf
        clear hf
        go_wp2
        try rw [Exit.noGoto_ret]
        go_ret
        exact ⟨by rw [HF.out] <;> rfl, _, rfl⟩
end Go.Proofs.YtldjemekncfmeaaDoor
