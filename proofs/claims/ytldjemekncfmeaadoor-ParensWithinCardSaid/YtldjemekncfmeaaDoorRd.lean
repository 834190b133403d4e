/-
  The reference's Enclose, Size, Child: what each call returns. For at most 768 bools, at any place; what was there stays as it is.
-/
import Derived.Test.YtldjemekncfmeaaDoorRc
import Derived.Test.YtldjemekncfmeaaDoorKidsw
namespace Go.Proofs.YtldjemekncfmeaaDoor
open Go.RowKit

/-- a call that returns v; what was there stays -/
def RetB (v : Value) (w : World) (e : Ending) (w' : World) : Prop := e = .returned v ∧ Below w.heap.size w w'

theorem max_of {a b : Int} : max a b = if b > a then b else a := by split <;> omega

set_option maxHeartbeats 1000000 in
theorem renclose_any (A : Option Addr) (n cp : Nat) (f : Nat → Bool) (i : Int) (w : World) (h : BL w A n f) (hn : n ≤ 768) :
    Calls Tryd.prog 27 #[.slice A n cp, .int .i64 i] w (RetB (.int .i64 (enclI f n i)) w) := by
  have HS := Lib.hid h
  clear h
  by_cases h1 : 0 ≤ i
  · by_cases h2 : i < n
    · obtain ⟨i, rfl⟩ := Int.eq_ofNat_of_zero_le h1
      have hin : i < n := by omega
      have hib : inB n (i : Int) = true := by unfold inB; simp; omega
      have hr : enclI f n (i : Int) = Lp.greatestD (fun k => f k && decide ((i : Int) < Lp.closeD f n k) && decide (Lp.closeD f n i < Lp.closeD f n k)) i := by rw [enclI, hib, if_pos rfl, Int.toNat_natCast, Lp.enclD, if_pos hin]
      rw [hr]
      have hcl := Lp.closeD_lo f n i
      clear hib hr
      have hP : ∀ k, (f k && decide ((i : Int) < Lp.closeD f n k) && decide (Lp.closeD f n i < Lp.closeD f n k)) = (f k && decide (max (i : Int) (Lp.closeD f n i) < Lp.closeD f n k)) := fun k => by
        cases f k
        · rfl
        · simp only [Bool.true_and, ← Bool.decide_and, Int.max_lt]
      simp only [hP]
      clear hP
      generalize hC : Lp.closeD f n i = C at *
      have hEb : (i : Int) ≤ max (i : Int) C ∧ max (i : Int) C < n := by omega
      obtain ⟨hE1, hE2⟩ := hEb
      generalize hE : max (i : Int) C = E at *
      have HCE := Lib.hid hC
      have HE := Lib.hid hE
      clear hC hE
      obtain ⟨b, off, rfl, hc⟩ := HS.out.at (by omega)
      have HCC := Lib.hid hc
      clear hc
      go_enter Tryd.func27, Tryd.ntmps27
      go_wp2_with fail
      refine (rcloses_any _ n _ f _ HS.out hn).mono ?_
      rintro e w1 ⟨A', cp', rfl, hl, hb⟩
      obtain ⟨b', off', rfl, hlc⟩ := hl.resolve_left (by omega)
      have HL := Lib.hid hlc
      have HB := Lib.hid hb
      have e1 := hlc i hin
      simp only [HCE.out] at e1
      clear hl hb hlc
      have hw1 : ∀ k, k < n → w1.cell? ⟨b, off + k, none⟩ = some (.bool (f k)) := fun k hk => by
        have h0 : w.cell? ⟨b, off + k, none⟩ = some (.bool (f k)) := HCC.out k hk 0
        exact (HB.out.cell (p := ⟨b, off + k, none⟩) (World.block_lt_of_cell? _ _ h0)).trans h0
      have HW1 := Lib.hid hw1
      clear hw1
      go_upto_if 24 with (fail)
      go_cut [6] (fun s6 wx => s6 = .int .i64 E ∧ w1 = wx)
      case first =>
        by_cases hCi : C > i
        · go_wp2_with fail
          go_meet
          exact ⟨by rw [← HE.out, Int.max_eq_right (by omega)], rfl⟩
        · go_wp2_with fail
          go_meet
          exact ⟨by rw [← HE.out, Int.max_eq_left (by omega)], rfl⟩
      case rest =>
        obtain ⟨rfl, hwc⟩ := hcut
        subst hwc
        clear e1
        go_wp2
        go_loopw [7] (fun s7 wr => ∃ m : Nat, s7 = .int .i64 ((m : Int) - 1) ∧ m ≤ i ∧ Hid (∀ j, m ≤ j → j < i → (f j && decide (E < Lp.closeD f n j)) = false) ∧ w1 = wr) (fun s7 _ => (intOf s7 + 1).toNat)
        case atStart =>
          refine ⟨i, rfl, Nat.le_refl _, ?_, rfl⟩
          show ∀ j, i ≤ j → j < i → (f j && decide (E < Lp.closeD f n j)) = false
          intro j j1 j2; omega
        case round =>
          obtain ⟨m, rfl, hmi, hinv, hww⟩ := hrel
          subst hww
          have HI := Lib.hid hinv
          clear hinv
          by_cases hm : 0 < m
          · obtain ⟨k, rfl⟩ : ∃ k, m = k + 1 := ⟨m - 1, by omega⟩
            have hk : ((k + 1 : Nat) : Int) - 1 = (k : Int) := by omega
            rw [hk]
            have e1 := HW1.out k (by omega)
            have e2 := HL.out k (by omega)
            have hnext : (f k && decide (E < Lp.closeD f n k)) = false → ∀ j, k ≤ j → j < i → (f j && decide (E < Lp.closeD f n j)) = false := by
              intro h0 j j1 j2
              by_cases e : j = k
              · subst e; exact h0
              · exact HI.out j (by omega) j2
            have hfound : (f k && decide (E < Lp.closeD f n k)) = true → Lp.greatestD (fun k => f k && decide (E < Lp.closeD f n k)) i = (k : Int) := fun h0 =>
              Lp.greatestD_some (by omega) h0 fun j j1 j2 => HI.out j (by omega) j2
            have hcb := Lp.closeD_lo f n k
            obtain ⟨hcb1, hcb2⟩ := hcb
            have HN := Lib.hid hnext
            have HF := Lib.hid hfound
            clear hnext hfound hk
            generalize Lp.closeD f n k = D at *
            cases hf : f k
            · rw [hf] at e1
              have hst := HN.out (by rw [hf]; rfl)
              have HST := Lib.hid hst
              clear hst hf
              go_wp2
              go_roundw
              case rel => exact ⟨k, by go_num, by omega, HST.out, by first | trivial | rfl⟩
              case measure => simp [intOf] <;> omega
            · rw [hf] at e1
              by_cases hD : D > E
              · have hr := HF.out (by rw [hf]; simp; omega)
                have HR := Lib.hid hr
                clear hr hf
                go_wp2
                try rw [Exit.noGoto_ret]
                go_ret
                exact ⟨by rw [HR.out] <;> rfl, HB.out⟩
              · have hst := HN.out (by rw [hf]; simp; omega)
                have HST := Lib.hid hst
                clear hst hf
                go_wp2
                go_roundw
                case rel => exact ⟨k, by go_num, by omega, HST.out, by first | trivial | rfl⟩
                case measure => simp [intOf] <;> omega
          · obtain rfl : m = 0 := by omega
            have hr : Lp.greatestD (fun k => f k && decide (E < Lp.closeD f n k)) i = -1 := Lp.greatestD_none fun j hj => HI.out j (Nat.zero_le _) hj
            have HR := Lib.hid hr
            clear hr
            go_wp2
            try rw [Exit.noGoto_ret]
            go_ret
            exact ⟨by rw [HR.out] <;> rfl, HB.out⟩
    · have hr : enclI f n i = -1 := by
        have : inB n i = false := by unfold inB; simp; omega
        unfold enclI; rw [this]; rfl
      rw [hr]
      clear hr
      go_enter Tryd.func27, Tryd.ntmps27
      go_wp2
      try rw [Exit.noGoto_ret]
      go_ret
      exact ⟨rfl, Below.refl _ _⟩
  · have hr : enclI f n i = -1 := by
      have : inB n i = false := by unfold inB; simp; omega
      unfold enclI; rw [this]; rfl
    rw [hr]
    clear hr
    go_enter Tryd.func27, Tryd.ntmps27
    go_wp2
    try rw [Exit.noGoto_ret]
    go_ret
    exact ⟨rfl, Below.refl _ _⟩

set_option maxHeartbeats 1000000 in
theorem rsize_any (A : Option Addr) (n cp : Nat) (f : Nat → Bool) (i : Int) (w : World) (h : BL w A n f) (hn : n ≤ 768) :
    Calls Tryd.prog 29 #[.slice A n cp, .int .i64 i] w (Ret (.int .i64 (sizeI f n i)) w) := by
  have HS := Lib.hid h
  clear h
  rcases close_kinds f n i with ⟨h1, _, h3⟩ | ⟨a, c, rfl, hac, hcn, h1, h2⟩
  · have H1 := Lib.hid h1
    rw [h3]
    clear h1 h3
    go_enter Tryd.func29, Tryd.ntmps29
    go_wp2_with fail
    refine (rclose_any _ n _ f i _ HS.out (by omega)).mono ?_
    rintro e w' ⟨rfl, m0, rfl⟩
    rw [H1.out]
    go_wp2
    try rw [Exit.noGoto_ret]
    go_ret
    exact ⟨rfl, _, rfl⟩
  · have hci := (closeI_nat f n a).trans h1
    rw [h2]
    have HCI := Lib.hid hci
    have hca := Lp.cnt_le f a
    have hcc := Lp.cnt_le f
    have hmo := @Lp.cnt_mono f
    obtain ⟨b, off, rfl, hc⟩ := HS.out.at (by omega)
    have HCC := Lib.hid hc
    have HLE := Lib.hid hcc
    clear hci h1 h2 hc hcc hmo
    go_enter Tryd.func29, Tryd.ntmps29
    go_wp2_with fail
    refine (rclose_any _ n _ f _ _ HS.out (by omega)).mono ?_
    rintro e w' ⟨rfl, m0, rfl⟩
    rw [HCI.out]
    go_wp2
    go_loopw [6, 7] (fun s6 s7 wr => ∃ k : Nat, s7 = .int .i64 k ∧ a ≤ k ∧ k ≤ c ∧ s6 = .int .i64 ((Lp.cnt f k : Int) - Lp.cnt f a) ∧ ∃ m, wr = w.drewN m) (fun _ s7 _ => c - (intOf s7).toNat)
    case atStart => exact ⟨a, rfl, Nat.le_refl _, by omega, by congr 1 <;> omega, _, rfl⟩
    case round =>
      obtain ⟨k, rfl, hak, hkc, rfl, m, rfl⟩ := hrel
      have hck := HLE.out k
      have hmk := Lp.cnt_mono f hak
      by_cases hlt : k < c
      · have hlti : (k : Int) < c := by omega
        have e1 := HCC.out k (by omega) m
        have hsu : Lp.cnt f (k + 1) = Lp.cnt f k + if f k then 1 else 0 := rfl
        generalize Lp.cnt f a = ca at *
        cases hf : f k
        · rw [hf] at e1 hsu
          have HSU := Lib.hid hsu
          clear hsu hf
          generalize Lp.cnt f k = ck at *
          go_wp2
          go_roundw
          case rel => exact ⟨k + 1, by go_num, by omega, hlt, by rw [HSU.out] <;> congr 1 <;> simp, _, rfl⟩
          case measure => simp [intOf] <;> omega
        · rw [hf] at e1 hsu
          have HSU := Lib.hid hsu
          clear hsu hf
          generalize Lp.cnt f k = ck at *
          go_wp2
          go_roundw
          case rel => exact ⟨k + 1, by go_num, by omega, hlt, by rw [HSU.out] <;> congr 1 <;> simp <;> omega, _, rfl⟩
          case measure => simp [intOf] <;> omega
      · obtain rfl : k = c := by omega
        go_wp2
        try rw [Exit.noGoto_ret]
        go_ret
        exact ⟨rfl, _, rfl⟩

theorem child_none {f : Nat → Bool} {n : Nat} {i k : Int} (h : closeI f n i = -1) : childI f n i k = -1 := by
  rw [childI]
  split
  · rename_i hh
    simp only [inB, Bool.and_eq_true, decide_eq_true_eq] at hh
    obtain ⟨i, rfl⟩ := Int.eq_ofNat_of_zero_le hh.1.1
    rw [closeI_nat] at h
    rw [Int.toNat_natCast, Lp.childD, h]; rfl
  · rfl

set_option maxHeartbeats 1000000 in
theorem rchild_any (A : Option Addr) (n cp : Nat) (f : Nat → Bool) (i k : Int) (w : World) (h : BL w A n f) (hn : n ≤ 768) (hk : Fits63 k) :
    Calls Tryd.prog 31 #[.slice A n cp, .int .i64 i, .int .i64 k] w (RetB (.int .i64 (childI f n i k)) w) := by
  have HS := Lib.hid h
  have HK := Lib.hid hk
  clear h hk
  rcases close_kinds f n i with ⟨h1, _, _⟩ | ⟨a, c, rfl, hac, hcn, h1, _⟩
  · have H1 := Lib.hid h1
    rw [child_none h1]
    clear h1
    go_enter Tryd.func31, Tryd.ntmps31
    go_wp2_with fail
    refine (rclose_any _ n _ f i _ HS.out (by omega)).mono ?_
    rintro e w' ⟨rfl, m0, rfl⟩
    rw [H1.out]
    go_wp2
    try rw [Exit.noGoto_ret]
    go_ret
    exact ⟨rfl, belowN (Below.refl _ _) _⟩
  · have hci := (closeI_nat f n a).trans h1
    have HCI := Lib.hid hci
    by_cases hk0 : 0 ≤ k
    · obtain ⟨k, rfl⟩ := Int.eq_ofNat_of_zero_le hk0
      have hr : childI f n (a : Int) (k : Int) = Lp.leastD (fun j => Lp.kid f n a j && Lp.cnt (Lp.kid f n a) j == k) c := by
        have hib : inB n (a : Int) = true := by unfold inB; simp; omega
        rw [childI, hib]
        simp only [Bool.true_and, decide_eq_true_eq]
        rw [if_pos hk0, Int.toNat_natCast, Int.toNat_natCast, Lp.childD, h1, if_neg (by omega), Int.toNat_natCast]
      rw [hr]
      have hst0 := (kid_start h1).2.2.2
      have HST0 := Lib.hid hst0
      obtain ⟨b, off, rfl, hc⟩ := HS.out.at (by omega)
      have HCC := Lib.hid hc
      clear hci h1 hr hc hst0 hk0
      go_enter Tryd.func31, Tryd.ntmps31
      go_wp2_with fail
      refine (rclose_any _ n _ f _ _ HS.out (by omega)).mono ?_
      rintro e w' ⟨rfl, m0, rfl⟩
      rw [HCI.out]
      go_wp2
      go_loopw [2, 8] (fun s2 s8 wr => ∃ t : Nat, s8 = .int .i64 t ∧ a + 1 ≤ t ∧ t ≤ c ∧ s2 = .int .i64 ((k : Int) - Lp.cnt (Lp.kid f n a) t) ∧ Lp.cnt (Lp.kid f n a) t ≤ k ∧ Below w.heap.size w wr) (fun _ s8 _ => c - (intOf s8).toNat)
      case atStart => exact ⟨a + 1, by go_num, Nat.le_refl _, hac, by rw [HST0.out] <;> congr 1 <;> simp, by rw [HST0.out]; omega, belowN (Below.refl _ _) _⟩
      case round =>
        obtain ⟨t, rfl, hat, htc, rfl, hck, hbel⟩ := hrel
        have HBEL := Lib.hid hbel
        have htb := Lp.cnt_le (Lp.kid f n a) t
        by_cases hlt : t < c
        · have hlti : (t : Int) < c := by omega
          have h0 : w.cell? ⟨b, off + t, none⟩ = some (.bool (f t)) := HCC.out t (by omega) 0
          have e1 := (hbel.cell (p := ⟨b, off + t, none⟩) (World.block_lt_of_cell? _ _ h0)).trans h0
          have hsu : Lp.cnt (Lp.kid f n a) (t + 1) = Lp.cnt (Lp.kid f n a) t + if Lp.kid f n a t then 1 else 0 := rfl
          clear h0 hbel
          cases hf : f t
          · have hkid : Lp.kid f n a t = false := by unfold Lp.kid; simp [hf]
            rw [hf] at e1
            rw [hkid] at hsu
            have HSU := Lib.hid hsu
            clear hsu hkid hf
            generalize Lp.cnt (Lp.kid f n a) t = C at *
            go_wp2
            go_roundw
            case rel => exact ⟨t + 1, by go_num, by omega, hlt, by rw [HSU.out] <;> congr 1 <;> simp, by rw [HSU.out]; simpa using hck, HBEL.out⟩
            case measure => simp [intOf] <;> omega
          · have hE : enclI f n (t : Int) = Lp.enclD f n t := by
              have hib : inB n (t : Int) = true := by unfold inB; simp; omega
              rw [enclI, hib, if_pos rfl, Int.toNat_natCast]
            have hkid : Lp.kid f n a t = (Lp.enclD f n t == (a : Int)) := by
              unfold Lp.kid
              rw [hf]
              simp; omega
            rw [hf] at e1
            have HE := Lib.hid hE
            clear hE
            by_cases hea : Lp.enclD f n t = (a : Int)
            · have hk1 : Lp.kid f n a t = true := by rw [hkid, hea]; simp
              by_cases hkc : k = Lp.cnt (Lp.kid f n a) t
              · have hr : Lp.leastD (fun j => Lp.kid f n a j && Lp.cnt (Lp.kid f n a) j == k) c = (t : Int) := by
                  refine Lp.leastD_some hlt (by simp [hk1, hkc]) fun j hj => ?_
                  cases hfj : Lp.kid f n a j
                  · rfl
                  · have := cnt_lt hj hfj
                    simp; omega
                have hz : (k : Int) - Lp.cnt (Lp.kid f n a) t = 0 := by omega
                rw [hz]
                have HR := Lib.hid hr
                have HEA := Lib.hid (HE.out.trans hea)
                clear hr hz hsu hkid hea hk1 hkc hf htb hck
                go_wp2_with fail
                refine (renclose_any _ n _ f _ _ (HS.out.keep fun a _ e => (HBEL.out.cell (p := a) (World.block_lt_of_cell? _ _ e)).trans e) hn).mono ?_
                rintro e w' ⟨rfl, hb'⟩
                have HB2 := Lib.hid (HBEL.out.trans (hb'.mono HBEL.out.size))
                clear hb'
                rw [HEA.out]
                go_wp2
                try rw [Exit.noGoto_ret]
                go_ret
                exact ⟨by rw [HR.out] <;> rfl, HB2.out⟩
              · rw [hk1] at hsu
                have HSU := Lib.hid hsu
                have hwr := i64_down HK.out (show Lp.cnt (Lp.kid f n a) t < k by omega)
                have hnz : ¬ (k : Int) - Lp.cnt (Lp.kid f n a) t = 0 := by omega
                have HEA := Lib.hid (HE.out.trans hea)
                clear hsu hkid hea hk1 hf
                generalize Lp.cnt (Lp.kid f n a) t = C at *
                go_wp2_with fail
                refine (renclose_any _ n _ f _ _ (HS.out.keep fun a _ e => (HBEL.out.cell (p := a) (World.block_lt_of_cell? _ _ e)).trans e) hn).mono ?_
                rintro e w' ⟨rfl, hb'⟩
                have HB2 := Lib.hid (HBEL.out.trans (hb'.mono HBEL.out.size))
                clear hb'
                rw [HEA.out]
                go_wp2
                go_roundw
                case rel => exact ⟨t + 1, by go_num, by omega, hlt, by rw [HSU.out] <;> congr 1 <;> simp <;> omega, by rw [HSU.out]; simp <;> omega, HB2.out⟩
                case measure => simp [intOf] <;> omega
            · have hk1 : Lp.kid f n a t = false := by rw [hkid]; simp [hea]
              rw [hk1] at hsu
              have HSU := Lib.hid hsu
              generalize Lp.enclD f n t = E at *
              clear hsu hkid hk1 hf
              generalize Lp.cnt (Lp.kid f n a) t = C at *
              go_wp2_with fail
              refine (renclose_any _ n _ f _ _ (HS.out.keep fun a _ e => (HBEL.out.cell (p := a) (World.block_lt_of_cell? _ _ e)).trans e) hn).mono ?_
              rintro e w' ⟨rfl, hb'⟩
              have HB2 := Lib.hid (HBEL.out.trans (hb'.mono HBEL.out.size))
              clear hb'
              rw [HE.out]
              go_wp2
              go_roundw
              case rel => exact ⟨t + 1, by go_num, by omega, hlt, by rw [HSU.out] <;> congr 1 <;> simp, by rw [HSU.out]; simpa using hck, HB2.out⟩
              case measure => simp [intOf] <;> omega
        · obtain rfl : t = c := by omega
          have hr : Lp.leastD (fun j => Lp.kid f n a j && Lp.cnt (Lp.kid f n a) j == k) t = -1 := by
            refine Lp.leastD_none fun j hj => ?_
            cases hfj : Lp.kid f n a j
            · rfl
            · have := cnt_lt hj hfj
              simp; omega
          have HR := Lib.hid hr
          clear hr
          go_wp2
          try rw [Exit.noGoto_ret]
          go_ret
          exact ⟨by rw [HR.out] <;> rfl, HBEL.out⟩
    · have hr : childI f n (a : Int) k = -1 := by rw [childI, if_neg (by simp [hk0])]
      rw [hr]
      clear hr hci h1
      go_enter Tryd.func31, Tryd.ntmps31
      go_wp2_with fail
      refine (rclose_any _ n _ f _ _ HS.out (by omega)).mono ?_
      rintro e w' ⟨rfl, m0, rfl⟩
      rw [HCI.out]
      go_wp2
      try rw [Exit.noGoto_ret]
      go_ret
      exact ⟨rfl, belowN (Below.refl _ _) _⟩
end Go.Proofs.YtldjemekncfmeaaDoor
