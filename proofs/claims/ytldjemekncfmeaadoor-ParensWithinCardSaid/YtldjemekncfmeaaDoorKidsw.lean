/-
  The law ParensChildren: its walk. It returns true, at every argument; what was there stays as it is.
-/
import Derived.Test.YtldjemekncfmeaaDoorBackw
namespace Go.Proofs.YtldjemekncfmeaaDoor
open Go.RowKit

/-- a bracket that no other closes has no pair; of one that is closed: where, and how many -/
theorem close_kinds (f : Nat → Bool) (n : Nat) (i : Int) : (closeI f n i = -1 ∧ childI f n i 0 = -1 ∧ sizeI f n i = 0) ∨
    ∃ a c : Nat, i = (a : Int) ∧ a < c ∧ c < n ∧ Lp.closeD f n a = (c : Int) ∧ sizeI f n i = (Lp.cnt f c : Int) - Lp.cnt f a := by
  by_cases hin : inB n i = true
  · have hh := hin
    simp only [inB, Bool.and_eq_true, decide_eq_true_eq] at hh
    obtain ⟨hi0, hi1⟩ := hh
    obtain ⟨k, rfl⟩ := Int.eq_ofNat_of_zero_le hi0
    rw [closeI_nat]
    rcases Lp.closeD_is f n k with ⟨e, _⟩ | ⟨c, h1, h2, _, h3, _⟩
    · refine .inl ⟨e, ?_, ?_⟩
      · rw [childI, hin]
        simp [Lp.childD, e]
      · rw [sizeI, hin, if_pos rfl, Lp.sizeD, Int.toNat_natCast, e]; rfl
    · refine .inr ⟨k, c, rfl, h1, h2, h3, ?_⟩
      rw [sizeI, hin, if_pos rfl, Lp.sizeD, Int.toNat_natCast, h3, if_neg (by omega), Int.toNat_natCast]
  · have h0' : inB n i = false := by simpa using hin
    exact .inl ⟨by rw [closeI, opB, h0']; rfl, by rw [childI, h0']; rfl, by rw [sizeI, h0']; rfl⟩
/-- the k-th pair within, at the place that stands behind k pairs -/
theorem child_at {f : Nat → Bool} {n i c a t : Nat} (hc : Lp.closeD f n i = (c : Int)) (hn : i < n) (h : KidSt f n i c a t) (ha : a < c) : childI f n (i : Int) (t : Int) = (a : Int) := by
  have hin : inB n (i : Int) = true := by unfold inB; simp; omega
  rw [childI, hin]
  simp only [Bool.true_and, decide_eq_true_eq]
  rw [if_pos (by omega), Int.toNat_natCast, Int.toNat_natCast, kid_found hc h ha]
theorem child_end {f : Nat → Bool} {n i c t : Nat} (hc : Lp.closeD f n i = (c : Int)) (h : KidSt f n i c c t) : childI f n (i : Int) (t : Int) = -1 := by
  rw [childI]
  split
  · rw [Int.toNat_natCast, Int.toNat_natCast, kid_end hc h (Nat.le_refl _) (Nat.le_refl _)]
  · rfl
theorem encl_at {f : Nat → Bool} {n i a : Nat} (hk : Lp.kid f n i a = true) (ha : a < n) : enclI f n (a : Int) = (i : Int) := by
  have hin : inB n (a : Int) = true := by unfold inB; simp; omega
  unfold Lp.kid at hk
  simp at hk
  rw [enclI, hin, if_pos rfl, Int.toNat_natCast]
  exact hk.2

set_option maxRecDepth 100000 in
set_option maxHeartbeats 2000000 in
theorem kids_walk (w : World) (hT : Tab w) (A : Option Addr) (l cp : Nat) (ys : Nat → BitVec 64) (hs : IS w A l (fun i => .int .u64 (U (ys i)))) (hl : l ≤ 17592186044416) (n : Int) (i : Int) (hi : Fits63 i) :
    Calls Tryd.prog 7 #[.slice A l cp, .int .i64 n, .int .i64 i] w (TrueIs w) := by
  have HT := Lib.hid hT
  have HS := Lib.hid hs
  clear hT hs
  go_enter Tryd.func7, Tryd.ntmps7
  go_wp2_with fail
  refine (shown_any _ HT.out).mono ?_
  rintro e w1 ⟨rfl, hb1⟩
  have HB1 := Lib.hid hb1
  clear hb1
  by_cases hgr : 12 < l
  · have hd : decide (12 < l) = true := by simp [hgr]
    go_wp2_with fail
    refine (great_any _ _ _ _).mono ?_
    rintro e w2 ⟨rfl, rfl⟩
    rw [hd]
    go_wp2
    try rw [Exit.noGoto_ret]
    go_ret
    exact ⟨rfl, HB1.out⟩
  have hd : decide (12 < l) = false := by simp [hgr]
  have hnew := new_any A l cp ys n _ (HS.out.keep fun a _ e => (HB1.out.cell (p := a) (World.block_lt_of_cell? _ _ e)).trans e) hl
  have hN := great_size (n := n) (l := l) (by omega)
  generalize clip n l = N at *
  have HNEW := Lib.hid hnew
  clear hnew
  go_wp2_with fail
  refine (great_any _ _ _ _).mono ?_
  rintro e w2 ⟨rfl, rfl⟩
  rw [hd]
  go_wp2_with fail
  refine HNEW.out.mono ?_
  rintro e w2 ⟨g, rfl, hv, hb2⟩
  generalize bitF ys N = f at *
  have HV := Lib.hid hv
  have hb3 : Below w.heap.size w w2 := HB1.out.trans (hb2.mono HB1.out.size)
  have HB2 := Lib.hid hb3
  clear hb2 hb3 hv hd hgr
  rcases close_kinds f N i with ⟨h1, h2, h3⟩ | ⟨a, c, rfl, hac, hcN, h1, h2⟩
  · have H1 := Lib.hid h1
    have H2 := Lib.hid h2
    have H3 := Lib.hid h3
    clear h1 h2 h3
    go_wp2_with fail
    refine (close_any _ N f i _ HV.out).mono ?_
    rintro e w' ⟨rfl, m0, rfl⟩
    rw [H1.out]
    go_wp2_with fail
    refine (child_any _ N f i 0 _ (HV.out.drewN _) ⟨by omega⟩).mono ?_
    rintro e w' ⟨rfl, m1, rfl⟩
    rw [H2.out]
    go_wp2_with fail
    refine (size_any _ N f i _ (HV.out.drewN _)).mono ?_
    rintro e w' ⟨rfl, m2, rfl⟩
    rw [H3.out]
    go_wp2
    try rw [Exit.noGoto_ret]
    go_ret
    exact ⟨rfl, belowN HB2.out _⟩
  · have hci : closeI f N (a : Int) = (c : Int) := (closeI_nat f N a).trans h1
    have HCI := Lib.hid hci
    clear hci
    go_wp2_with fail
    refine (close_any _ N f _ _ HV.out).mono ?_
    rintro e w' ⟨rfl, m0, rfl⟩
    rw [HCI.out]
    have hkid0 := kid_start h1
    have HS2 := Lib.hid h2
    have HC1 := Lib.hid h1
    have hcnt := Lp.cnt_le f
    have hfa : f a = true := by
      rcases Lp.closeD_is f N a with ⟨e, _⟩ | ⟨c', _, _, q3, _⟩
      · omega
      · exact q3
    have hst : Lp.cnt f (a + 1) = Lp.cnt f a + 1 := by rw [Lp.cnt, hfa]; rfl
    have HCNT := Lib.hid hcnt
    clear h1 h2 hcnt hfa
    go_wp2
    go_loopw [10, 11, 12] (fun s10 s11 s12 wr => ∃ t d : Nat, s12 = .int .i64 t ∧ s10 = .int .i64 d ∧ s11 = .int .i64 ((Lp.cnt f d : Int) - Lp.cnt f a) ∧ d ≤ c ∧ 2 * t ≤ d ∧ t ≤ N ∧ Hid (KidSt f N a c d t) ∧ ∃ m, wr = w2.drewN m) (fun _ _ s12 _ => N - (intOf s12).toNat)
    case atStart => exact ⟨0, a + 1, by go_num, by go_num, by rw [hst] <;> congr 1 <;> omega, hac, by omega, by omega, hkid0, _, rfl⟩
    case round =>
      obtain ⟨t, d, rfl, rfl, rfl, hdc, htd, htN, hkid, m, rfl⟩ := hrel
      have HK := Lib.hid hkid
      clear hkid
      have htlt : t < N := by omega
      have htli : (t : Int) < N := by omega
      by_cases hd : d < c
      · have hch := child_at HC1.out (by omega) HK.out hd
        obtain ⟨hf, hkd⟩ := kid_is HC1.out HK.out hd
        have hen := encl_at hkd (show d < N by omega)
        obtain ⟨e, e1, e2, e3, e4⟩ := kid_next HC1.out HK.out hd
        have hcl := (closeI_nat f N d).trans e1
        have hsz : sizeI f N (d : Int) = (Lp.cnt f e : Int) - Lp.cnt f d := by
          rcases close_kinds f N (d : Int) with ⟨q, _⟩ | ⟨a', c', q1, _, _, q4, q5⟩
          · omega
          · obtain rfl : a' = d := by omega
            have : c' = e := by omega
            rw [q5, this]
        have hce : Lp.cnt f (e + 1) = Lp.cnt f e := by
          rcases Lp.closeD_is f N d with ⟨q, _⟩ | ⟨c', _, _, _, q4, _, q6, _⟩
          · omega
          · obtain rfl : c' = e := by omega
            rw [Lp.cnt, q6]; rfl
        have hb1 := HCNT.out a
        have hb2 := HCNT.out d
        have hb3 := HCNT.out e
        have HCH := Lib.hid hch
        have HEN := Lib.hid hen
        have HCL := Lib.hid hcl
        have HSZ := Lib.hid hsz
        have HCE := Lib.hid hce
        have HK4 := Lib.hid e4
        clear hch hen hcl hsz hce e4 e1 hkd hf hst hkid0
        generalize Lp.cnt f a = ca at *
        generalize Lp.cnt f d = cd at *
        generalize Lp.cnt f e = ce at *
        go_wp2_with fail
        refine (len_any _ N f _ (HV.out.drewN _)).mono ?_
        rintro e w' ⟨rfl, rfl⟩
        go_wp2_with fail
        refine (child_any _ N f _ _ _ (HV.out.drewN _) ⟨by omega⟩).mono ?_
        rintro e w' ⟨rfl, m1, rfl⟩
        rw [HCH.out]
        go_wp2_with fail
        refine (enclose_any _ N f _ _ (HV.out.drewN _)).mono ?_
        rintro e w' ⟨rfl, m2, rfl⟩
        rw [HEN.out]
        go_wp2_with fail
        refine (close_any _ N f _ _ (HV.out.drewN _)).mono ?_
        rintro e w' ⟨rfl, m3, rfl⟩
        rw [HCL.out]
        go_wp2_with fail
        refine (close_any _ N f _ _ (HV.out.drewN _)).mono ?_
        rintro e w' ⟨rfl, m4, rfl⟩
        rw [HCL.out]
        go_wp2_with fail
        refine (size_any _ N f _ _ (HV.out.drewN _)).mono ?_
        rintro e w' ⟨rfl, m5, rfl⟩
        rw [HSZ.out]
        go_wp2_with fail
        refine (close_any _ N f _ _ (HV.out.drewN _)).mono ?_
        rintro e w' ⟨rfl, m6, rfl⟩
        rw [HCL.out]
        go_wp2
        go_roundw
        case rel => exact ⟨t + 1, e + 1, by go_num, by go_num, by rw [HCE.out] <;> congr 1 <;> omega, by omega, by omega, by omega, HK4.out, _, rfl⟩
        case measure => simp [intOf] <;> omega
      · obtain rfl : d = c := by omega
        have hch := child_end HC1.out HK.out
        have HCH := Lib.hid hch
        clear hch hst hkid0
        go_wp2_with fail
        refine (len_any _ N f _ (HV.out.drewN _)).mono ?_
        rintro e w' ⟨rfl, rfl⟩
        go_wp2_with fail
        refine (child_any _ N f _ _ _ (HV.out.drewN _) ⟨by omega⟩).mono ?_
        rintro e w' ⟨rfl, m1, rfl⟩
        rw [HCH.out]
        go_wp2_with fail
        refine (size_any _ N f _ _ (HV.out.drewN _)).mono ?_
        rintro e w' ⟨rfl, m2, rfl⟩
        rw [HS2.out]
        go_wp2
        try rw [Exit.noGoto_ret]
        go_ret
        exact ⟨rfl, belowN HB2.out _⟩
theorem kids_law (w : World) (hT : Tab w) (A : Option Addr) (l cp : Nat) (ys : Nat → BitVec 64) (hs : IS w A l (fun i => .int .u64 (U (ys i)))) (hl : l ≤ 17592186044416) (n : Int) (_hn : (Lit.int .i64 n).wf = true) (i : Int) (hi : (Lit.int .i64 i).wf = true) :
    Calls Tryd.prog 7 #[.slice A l cp, .int .i64 n, .int .i64 i] w (TrueIs w) :=
  kids_walk w hT A l cp ys hs hl n i (fits_of hi)
end Go.Proofs.YtldjemekncfmeaaDoor
