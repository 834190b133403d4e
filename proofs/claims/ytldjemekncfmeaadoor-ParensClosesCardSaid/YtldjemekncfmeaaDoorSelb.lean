/-
  math/bits.TrailingZeros64: its walk under the table; a vector's Select and Directory: what each call returns.
-/
import Derived.Test.YtldjemekncfmeaaDoorSel
namespace Go.Proofs.YtldjemekncfmeaaDoor
open Go.RowKit

/-- the table's block -/
def tabG : Nat := 0
theorem gTab : Tryd.prog.globalNamed "math/bits.deBruijn64tab" = some tabG := by kernel_rfl
/-- the table lies where the program's text lays it -/
structure Tab (w : World) : Prop where
  out : TabAt tabG Lib.deBruijn64tab w
theorem Tab.keep {w w' : World} (h : Tab w) (hk : ∀ a v, w.cell? a = some v → w'.cell? a = some v) : Tab w' := ⟨fun j hj => hk _ _ (h.out j hj)⟩
theorem Tab.drewN {w : World} (h : Tab w) (k : Nat) : Tab (w.drewN k) := h.keep fun _ _ e => e
theorem Tab.below {w w' : World} (h : Tab w) (hb : Below w.heap.size w w') : Tab w' := h.keep fun a _ e => (hb.cell (p := a) (World.block_lt_of_cell? _ _ e)).trans e

set_option maxHeartbeats 1000000 in
theorem tz_core (x k idx : Nat) (w : World) (hx0 : ((x : Int) == 0) = false)
    (key : IntKind.u64.wrap (bits BinOp.and IntKind.u64 (x : Int) (IntKind.u64.wrap (-(x : Int))) * 285870213051353865) / 288230376151711744 = (idx : Int))
    (hi : idx < 64) (hk : k < 64) (hcell : w.cell? ⟨tabG, idx, none⟩ = some (.int .u8 k)) :
    Calls Tryd.prog 36 #[.int .u64 x] w fun e w' => e = .returned (.int .i64 k) ∧ w = w' := by
  unfold tabG at hcell
  go_enter Tryd.func36, Tryd.ntmps36
  go_wp2_with (simp only [key])
  go_ret
  exact ⟨rfl, rfl⟩
theorem tz_any (y : BitVec 64) (w : World) (hT : Tab w) (h : 0 < Lp.cnt y.getLsbD 64) :
    Calls Tryd.prog 36 #[.int .u64 (U y)] w fun e w' => e = .returned (.int .i64 (low y)) ∧ w = w' := by
  have h0 : y.toNat ≠ 0 := by
    intro e
    have := (low_is y h).2.1
    simp [BitVec.getLsbD, e] at this
  obtain ⟨hlow, hk⟩ := Lib.lowest_bit 64 y.toNat h0 y.isLt
  obtain ⟨hi, htab⟩ := Lib.deBruijn64_at _ hk
  have hcell := hT.out _ hi
  rw [htab] at hcell
  exact tz_core y.toNat (low y) _ w (by simp; omega) (tz64_key _ _ y.isLt h0 hlow) hi hk hcell

/-! ### Directory -/
/-- how many numbers are kept beside the bits -/
def dirI (p : Option Addr) (n : Nat) : Int := match p with | none => 0 | some _ => 3 * nw n
set_option maxHeartbeats 400000 in
theorem directory_any (p : Option Addr) (n : Nat) (f : Nat → Bool) (w : World) (h : Vec w p n f) :
    Calls Tryd.prog 32 #[.pointer p] w (Ret (.int .i64 (dirI p n)) w) := by
  have hn := h.1
  have hnw : nw n ≤ 17592186044416 := by unfold nw; omega
  obtain ⟨_, _, ⟨rfl, rfl⟩ | ⟨g, Aw, Ar, Al, Am, cw, cr, cl, cm, xs, ls, ms, rfl, v⟩⟩ := h
  · go_enter Tryd.func32, Tryd.ntmps32
    go_wp2
    go_ret
    exact ⟨rfl, 0, rfl⟩
  · have c2 := v.c2
    have c3 := v.c3
    have c4 := v.c4
    clear v
    generalize hN : nw n = N at *
    have HN := Lib.hid hN
    clear hN
    go_enter Tryd.func32, Tryd.ntmps32
    go_wp2
    go_quiet (fail)
    go_wp2
    go_ret
    refine ⟨?_, _, rfl⟩
    rw [dirI, HN.out]
    exact ret_i (by omega)

/-! ### Select -/
/-- the k-th one's place -/
def selI (f : Nat → Bool) (n : Nat) (k : Int) : Int := if 0 ≤ k ∧ k < Lp.cnt f n then Lp.selD f n k.toNat else -1

theorem sel_is {f : Nat → Bool} {n lo C r : Nat} {X y : BitVec 64} (hb : ∀ i, i < 64 → X.getLsbD i = f (64 * lo + i)) (hC : Lp.cnt f (64 * lo) = C)
    (hr : r < Lp.cnt X.getLsbD 64) (ho : Off X y r) (hz : ∀ j, n ≤ j → f j = false) : Lp.selD f n (C + r) = ((64 * lo + low y : Nat) : Int) := by
  obtain ⟨h1, h2, h3⟩ := low_is y (by rw [off_cnt ho 64 (Nat.le_refl _)]; omega)
  generalize low y = p at *
  rw [ho p h1] at h2
  simp only [Bool.and_eq_true, decide_eq_true_eq] at h2
  rw [off_cnt ho p (by omega)] at h3
  have hf : f (64 * lo + p) = true := by rw [← hb p h1]; exact h2.1
  have hc : Lp.cnt f (64 * lo + p) = C + r := by
    rw [cnt_add f (64 * lo) p, hC, Lp.cnt_congr (fun i hi => (hb i (by omega)).symm)]; omega
  have hn : 64 * lo + p < n := by
    rcases Nat.lt_or_ge (64 * lo + p) n with h | h
    · exact h
    · rw [hz _ h] at hf; cases hf
  refine Lp.leastD_some hn (by simp [hf, hc]) fun j hj => ?_
  cases hfj : f j
  · rfl
  · have := cnt_lt hj hfj
    simp; omega

attribute [local go_sem] U_sub1 U_and
set_option maxRecDepth 100000 in
set_option maxHeartbeats 2000000 in
theorem select_any (p : Option Addr) (n : Nat) (f : Nat → Bool) (k : Int) (w : World) (h : Vec w p n f) (hT : Tab w) :
    Calls Tryd.prog 20 #[.pointer p, .int .i64 k] w (Ret (.int .i64 (selI f n k)) w) := by
  have HV := Lib.hid h
  have HT := Lib.hid hT
  have hn := h.1
  have hrn := rankI_nat f n n (Nat.le_refl _)
  have hcn := Lp.cnt_le f n
  clear hT
  by_cases h0 : 0 ≤ k ∧ k < Lp.cnt f n
  · have hr : selI f n k = Lp.selD f n k.toNat := by rw [selI, if_pos h0]
    rw [hr]
    obtain ⟨k1, k2⟩ := h0
    obtain ⟨k, rfl⟩ := Int.eq_ofNat_of_zero_le k1
    rw [Int.toNat_natCast]
    obtain ⟨_, hz, ⟨rfl, rfl⟩ | ⟨g, Aw, Ar, Al, Am, cw, cr, cl, cm, xs, ls, ms, rfl, v⟩⟩ := h
    · rw [show Lp.cnt f 0 = 0 from rfl] at k2; omega
    have hW : 0 < nw n := by
      have : 0 < n := by
        have := hcn; omega
      unfold nw; omega
    have hWn : nw n ≤ 17592186044416 := by unfold nw; omega
    obtain ⟨bw, ow, rfl, hw⟩ := v.s1.at hW
    obtain ⟨br, or', rfl, hrk⟩ := v.s2.at hW
    have c1 := v.c1
    have c2 := v.c2
    have hbits := v.bits
    have HB := Lib.hid hbits
    have HW := Lib.hid hw
    have HR := Lib.hid hrk
    have HZ := Lib.hid hz
    have HRN := Lib.hid hrn
    clear v hr hbits hw hrk hz hrn
    go_enter Tryd.func20, Tryd.ntmps20
    go_wp2_with fail
    refine (len_any _ n f _ HV.out).mono ?_
    rintro e w' ⟨rfl, rfl⟩
    go_wp2_with fail
    refine (rank_any _ n f _ _ HV.out).mono ?_
    rintro e w' ⟨rfl, m0, rfl⟩
    rw [HRN.out]
    go_wp2
    go_quiet (fail)
    go_wp2
    go_loopw [5, 6] (fun s5 s6 wr => ∃ lo hi : Nat, s5 = .int .i64 lo ∧ s6 = .int .i64 hi ∧ lo < hi ∧ hi ≤ nw n ∧ Hid (Lp.cnt f (64 * lo) ≤ k ∧ k < Lp.cnt f (64 * hi)) ∧ ∃ m, wr = w.drewN m) (fun s5 s6 _ => (intOf s6).toNat - (intOf s5).toNat)
    case atStart =>
      refine ⟨0, nw n, by go_num, by go_num, by omega, by omega, ?_, m0 + nq, World.drewN_drewN _ _ _⟩
      have h1 : Lp.cnt f (64 * 0) = 0 := rfl
      have h2 := Lp.cnt_mono f (show n ≤ 64 * nw n by unfold nw; omega)
      show Lp.cnt f (64 * 0) ≤ k ∧ k < Lp.cnt f (64 * nw n)
      omega
    case round =>
      obtain ⟨lo, hi, rfl, rfl, hlh, hhn, hinv, m, rfl⟩ := hrel
      have HINV := Lib.hid hinv
      clear hinv
      by_cases h1 : lo + 1 < hi
      · have hgt : (1 : Int) < (hi : Int) - lo := by omega
        have hq : (lo + hi) / 2 < nw n := by omega
        have hqi : ((lo : Int) + hi) / 2 < (nw n : Int) := by omega
        have e2 := HR.out _ hq
        have hl1 : lo < (lo + hi) / 2 := by omega
        have hl2 : (lo + hi) / 2 < hi := by omega
        generalize hC : Lp.cnt f (64 * ((lo + hi) / 2)) = C at *
        have HC := Lib.hid hC
        clear hC
        by_cases hc : C ≤ k
        · have hci : (C : Int) ≤ k := by omega
          go_wp2
          go_roundw
          case rel =>
            refine ⟨(lo + hi) / 2, hi, by go_num, rfl, by omega, by omega, ?_, _, rfl⟩
            show Lp.cnt f (64 * ((lo + hi) / 2)) ≤ k ∧ k < Lp.cnt f (64 * hi)
            rw [HC.out]
            exact ⟨hc, HINV.out.2⟩
          case measure => simp [intOf] <;> omega
        · have hci : ¬ (C : Int) ≤ k := by omega
          go_wp2
          go_roundw
          case rel =>
            refine ⟨lo, (lo + hi) / 2, rfl, by go_num, by omega, by omega, ?_, _, rfl⟩
            show Lp.cnt f (64 * lo) ≤ k ∧ k < Lp.cnt f (64 * ((lo + hi) / 2))
            rw [HC.out]
            exact ⟨HINV.out.1, by omega⟩
          case measure => simp [intOf] <;> omega
      · have hgt : ¬ (1 : Int) < (hi : Int) - lo := by omega
        obtain rfl : hi = lo + 1 := by omega
        have e1 := HW.out _ (show lo < nw n by omega)
        have e2 := HR.out _ (show lo < nw n by omega)
        have hb := HB.out _ (show lo < nw n by omega)
        have hqi : (lo : Int) < (nw n : Int) := by omega
        have hi1 := HINV.out
        rw [show 64 * (lo + 1) = 64 * lo + 64 from by omega, cnt_add f (64 * lo) 64, Lp.cnt_congr (fun i hi => (hb i hi).symm)] at hi1
        obtain ⟨i1, i2⟩ := hi1
        generalize hX : xs lo = X at *
        generalize hC : Lp.cnt f (64 * lo) = C at *
        generalize hO : Lp.cnt X.getLsbD 64 = O at *
        have HX := Lib.hid hX
        have HC := Lib.hid hC
        have HO := Lib.hid hO
        have HBB := Lib.hid hb
        clear hX hC hO hb
        obtain ⟨r, rfl⟩ : ∃ r, k = C + r := ⟨k - C, by omega⟩
        have hr : r < O := by omega
        have hOb : O ≤ 64 := by rw [← HO.out]; exact Lp.cnt_le _ _
        go_wp2
        go_loopw [8, 59] (fun s8 s59 wr => ∃ (t : Nat) (y : BitVec 64), s8 = .int .u64 (U y) ∧ s59 = .int .i64 t ∧ t ≤ r ∧ Hid (Off X y t) ∧ ∃ m', wr = w.drewN m') (fun _ s59 _ => r - (intOf s59).toNat)
        case atStart => exact ⟨0, X, rfl, rfl, by omega, off_zero X, _, rfl⟩
        case round =>
          obtain ⟨t, y, rfl, rfl, htr, hoff, m', rfl⟩ := hrel
          have HOFF := Lib.hid hoff
          clear hoff
          by_cases htl : t < r
          · have ht1 : (t : Int) < (C : Int) + r - C := by omega
            have ht2 : (t : Int) < r := by omega
            go_wp2
            go_roundw
            case rel => exact ⟨t + 1, y &&& (y - 1#64), rfl, by go_num, by omega, off_next HOFF.out, _, rfl⟩
            case measure => simp [intOf] <;> omega
          · obtain rfl : t = r := by omega
            have hs := sel_is (n := n) HBB.out HC.out (by rw [HO.out]; exact hr) HOFF.out HZ.out
            have hlow := low_is y (by rw [off_cnt HOFF.out 64 (Nat.le_refl _), HO.out]; omega)
            obtain ⟨hl64, _⟩ := hlow
            have HS := Lib.hid hs
            have htz := tz_any y (w.drewN m') (HT.out.drewN m') (by rw [off_cnt HOFF.out 64 (Nat.le_refl _), HO.out]; omega)
            have HTZ := Lib.hid htz
            clear hs htz
            go_wp2_with fail
            refine HTZ.out.mono ?_
            rintro e w' ⟨rfl, rfl⟩
            go_wp2
            try rw [Exit.noGoto_ret]
            go_ret
            exact ⟨ret_i (by have := HS.out; omega), _, rfl⟩
  · have hr : selI f n k = -1 := by rw [selI, if_neg h0]
    have HR := Lib.hid hr
    have HRN := Lib.hid hrn
    have hs : k < 0 ∨ (0 ≤ k ∧ (Lp.cnt f n : Int) ≤ k) := by omega
    clear h hr h0 hrn
    rcases hs with hs | ⟨hs0, hs1⟩
    · go_enter Tryd.func20, Tryd.ntmps20
      go_wp2
      try rw [Exit.noGoto_ret]
      go_ret
      exact ⟨by rw [HR.out]; rfl, 0, rfl⟩
    · go_enter Tryd.func20, Tryd.ntmps20
      go_wp2_with fail
      refine (len_any _ n f _ HV.out).mono ?_
      rintro e w' ⟨rfl, rfl⟩
      go_wp2_with fail
      refine (rank_any _ n f _ _ HV.out).mono ?_
      rintro e w' ⟨rfl, m0, rfl⟩
      rw [HRN.out]
      go_wp2
      try rw [Exit.noGoto_ret]
      go_ret
      exact ⟨by rw [HR.out]; rfl, _, rfl⟩
end Go.Proofs.YtldjemekncfmeaaDoor
