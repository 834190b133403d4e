/-
  The law ParensBack: its walk. It returns true, at every argument; what was there stays as it is.
-/
import Derived.Test.YtldjemekncfmeaaDoorTabl
namespace Go.Proofs.YtldjemekncfmeaaDoor
open Go.RowKit

theorem selD_is {f : Nat → Bool} {n k : Nat} (h : k < Lp.cnt f n) : ∃ a : Nat, Lp.selD f n k = (a : Int) ∧ a < n ∧ f a = true ∧ Lp.cnt f a = k := by
  have hex : ∀ m, k < Lp.cnt f m → ∃ a, a < m ∧ f a = true ∧ Lp.cnt f a = k := by
    intro m
    induction m with
    | zero => intro h; rw [show Lp.cnt f 0 = 0 from rfl] at h; omega
    | succ m ih =>
      intro h
      by_cases hk : k < Lp.cnt f m
      · obtain ⟨a, h1, h2, h3⟩ := ih hk
        exact ⟨a, by omega, h2, h3⟩
      · rw [Lp.cnt] at h
        cases hf : f m
        · rw [hf] at h; simp at h; omega
        · rw [hf] at h; simp at h; exact ⟨m, by omega, hf, by omega⟩
  obtain ⟨a, h1, h2, h3⟩ := hex n h
  refine ⟨a, Lp.leastD_some h1 (by simp [h2, h3]) fun j hj => ?_, h1, h2, h3⟩
  cases hfj : f j
  · rfl
  · have := cnt_lt hj hfj
    simp; omega
theorem selI_is {f : Nat → Bool} {n k : Nat} (h : k < Lp.cnt f n) : ∃ a : Nat, selI f n k = (a : Int) ∧ a < n ∧ f a = true ∧ Lp.cnt f a = k := by
  obtain ⟨a, h1, h2⟩ := selD_is h
  exact ⟨a, by rw [selI, if_pos (by omega), Int.toNat_natCast, h1], h2⟩
theorem opB_at {f : Nat → Bool} {n k : Nat} (h : k < n) : opB f n (k : Int) = f k := by unfold opB inB; simp; omega
theorem exI_at (f : Nat → Bool) (n k : Nat) (h : k ≤ n) : exI f n (k : Int) = Lp.ex f k := by
  unfold exI; rw [show (max 0 (min (k : Int) (n : Int))).toNat = k from by omega]
theorem openI_at {f : Nat → Bool} {n k : Nat} (h : k < n) (hf : f k = false) : openI f n (k : Int) = Lp.openD f n k := by
  have h1 : inB n (k : Int) = true := by unfold inB; simp; omega
  rw [openI, h1, opB_at h, hf]; simp

theorem great_size {n : Int} {l : Nat} (h : l ≤ 12) : clip n l ≤ 768 := by unfold clip; omega

set_option maxRecDepth 100000 in
set_option maxHeartbeats 2000000 in
theorem back_law (w : World) (hT : Tab w) (A : Option Addr) (l cp : Nat) (ys : Nat → BitVec 64) (hs : IS w A l (fun i => .int .u64 (U (ys i)))) (hl : l ≤ 17592186044416) (n : Int) (_hn : (Lit.int .i64 n).wf = true) :
    Calls Tryd.prog 6 #[.slice A l cp, .int .i64 n] w (TrueIs w) := by
  have HT := Lib.hid hT
  have HS := Lib.hid hs
  clear hT hs
  go_enter Tryd.func6, Tryd.ntmps6
  go_wp2_with fail
  refine (shown_any _ HT.out).mono ?_
  rintro e w1 ⟨rfl, hb1⟩
  have HB1 := Lib.hid hb1
  clear hb1
  by_cases hgr : 12 < l
  · have hd : decide (12 < l) = true := by simp [hgr]
    go_wp2_with fail
    refine (great_any _ _ _ _).mono ?_
    rintro e w2 ⟨rfl, rfl⟩
    rw [hd]
    go_wp2
    try rw [Exit.noGoto_ret]
    go_ret
    exact ⟨rfl, HB1.out⟩
  have hd : decide (12 < l) = false := by simp [hgr]
  have hnew := new_any A l cp ys n _ (HS.out.keep fun a _ e => (HB1.out.cell (p := a) (World.block_lt_of_cell? _ _ e)).trans e) hl
  have hN := great_size (n := n) (l := l) (by omega)
  generalize clip n l = N at *
  have HNEW := Lib.hid hnew
  clear hnew
  go_wp2_with fail
  refine (great_any _ _ _ _).mono ?_
  rintro e w2 ⟨rfl, rfl⟩
  rw [hd]
  go_wp2_with fail
  refine HNEW.out.mono ?_
  rintro e w2 ⟨g, rfl, hv, hb2⟩
  generalize bitF ys N = f at *
  have HV := Lib.hid hv
  have hb3 : Below w.heap.size w w2 := HB1.out.trans (hb2.mono HB1.out.size)
  have HB2 := Lib.hid hb3
  have HT2 := Lib.hid (HT.out.below hb3)
  clear hb2 hb3 hv hd hgr
  have hcn := Lp.cnt_le f N
  have hrn := rankI_nat f N N (Nat.le_refl _)
  have HRN := Lib.hid hrn
  clear hrn
  go_wp2_with fail
  refine (len_any _ N f _ HV.out).mono ?_
  rintro e w' ⟨rfl, rfl⟩
  go_wp2_with fail
  refine (rank_any _ N f _ _ HV.out).mono ?_
  rintro e w' ⟨rfl, m0, rfl⟩
  rw [HRN.out]
  go_wp2
  go_loopw [8] (fun s8 wr => ∃ k : Nat, s8 = .int .i64 k ∧ k ≤ Lp.cnt f N ∧ ∃ m, wr = w2.drewN m) (fun s8 _ => Lp.cnt f N - (intOf s8).toNat)
  case atStart => exact ⟨0, rfl, by omega, _, rfl⟩
  case round =>
    obtain ⟨k, rfl, hk, m, rfl⟩ := hrel
    by_cases hlt : k < Lp.cnt f N
    · obtain ⟨a, hsel, haN, hfa, hca⟩ := selI_is hlt
      have hop := (opB_at (f := f) haN).trans hfa
      have hrk := rankI_nat f N a (by omega)
      rw [hca] at hrk
      have hcl := closeI_nat f N a
      have hlti : (k : Int) < Lp.cnt f N := by omega
      have HSEL := Lib.hid hsel
      have HOP := Lib.hid hop
      have HRK := Lib.hid hrk
      rcases Lp.closeD_is f N a with ⟨e, _⟩ | ⟨c, h1, h2, h3, h4, h5, h6, h7⟩
      · rw [e] at hcl
        have HCL := Lib.hid hcl
        clear e hcl hrk hop hsel hca hfa
        generalize Lp.cnt f N = C at *
        go_wp2_with fail
        refine (select_any _ N f _ _ (HV.out.drewN _) (HT2.out.drewN _)).mono ?_
        rintro e w' ⟨rfl, m1, rfl⟩
        rw [HSEL.out]
        go_wp2_with fail
        refine (opens_any _ N f _ _ (HV.out.drewN _)).mono ?_
        rintro e w' ⟨rfl, rfl⟩
        rw [HOP.out]
        go_wp2_with fail
        refine (rank_any _ N f _ _ (HV.out.drewN _)).mono ?_
        rintro e w' ⟨rfl, m2, rfl⟩
        rw [HRK.out]
        go_wp2_with fail
        refine (close_any _ N f _ _ (HV.out.drewN _)).mono ?_
        rintro e w' ⟨rfl, m3, rfl⟩
        rw [HCL.out]
        go_wp2
        go_roundw
        case rel => exact ⟨k + 1, by go_num, by omega, _, rfl⟩
        case measure => simp [intOf] <;> omega
      · rw [h4] at hcl
        have hoc := (opB_at (f := f) h2).trans h6
        have hopn := (openI_at h2 h6).trans (Lp.open_close h4)
        have he1 := exI_at f N (c + 1) (by omega)
        have he2 := exI_at f N a (by omega)
        rw [h5] at he1
        have hodd : ((c : Int) - a) % 2 = 1 := by
          have q1 := Lp.ex_cnt f (c + 1)
          have q2 := Lp.ex_cnt f a
          omega
        have hexb := Lp.ex_bound f a
        generalize Lp.ex f a = X at *
        generalize Lp.cnt f N = C at *
        have HCL := Lib.hid hcl
        have HOC := Lib.hid hoc
        have HOPN := Lib.hid hopn
        have HE1 := Lib.hid he1
        have HE2 := Lib.hid he2
        clear hcl hoc hopn he1 he2 hrk hop hsel hca hfa h3 h4 h5 h6 h7
        go_wp2_with fail
        refine (select_any _ N f _ _ (HV.out.drewN _) (HT2.out.drewN _)).mono ?_
        rintro e w' ⟨rfl, m1, rfl⟩
        rw [HSEL.out]
        go_wp2_with fail
        refine (opens_any _ N f _ _ (HV.out.drewN _)).mono ?_
        rintro e w' ⟨rfl, rfl⟩
        rw [HOP.out]
        go_wp2_with fail
        refine (rank_any _ N f _ _ (HV.out.drewN _)).mono ?_
        rintro e w' ⟨rfl, m2, rfl⟩
        rw [HRK.out]
        go_wp2_with fail
        refine (close_any _ N f _ _ (HV.out.drewN _)).mono ?_
        rintro e w' ⟨rfl, m3, rfl⟩
        rw [HCL.out]
        go_wp2_with fail
        refine (opens_any _ N f _ _ (HV.out.drewN _)).mono ?_
        rintro e w' ⟨rfl, rfl⟩
        rw [HOC.out]
        go_wp2_with fail
        refine (open_any _ N f _ _ (HV.out.drewN _)).mono ?_
        rintro e w' ⟨rfl, m4, rfl⟩
        rw [HOPN.out]
        go_wp2_with fail
        refine (excess_any _ N f ((c + 1 : Nat) : Int) _ (HV.out.drewN _)).mono ?_
        rintro e w' ⟨rfl, m5, rfl⟩
        rw [HE1.out]
        go_wp2_with fail
        refine (excess_any _ N f _ _ (HV.out.drewN _)).mono ?_
        rintro e w' ⟨rfl, m6, rfl⟩
        rw [HE2.out]
        go_wp2
        go_roundw
        case rel => exact ⟨k + 1, by go_num, by omega, _, rfl⟩
        case measure => simp [intOf] <;> omega
    · obtain rfl : k = Lp.cnt f N := by omega
      have hsel : selI f N (Lp.cnt f N : Nat) = -1 := by rw [selI, if_neg (by omega)]
      have hex := exI_at f N N (Nat.le_refl _)
      rw [Lp.ex_cnt] at hex
      generalize Lp.cnt f N = C at *
      have HSEL := Lib.hid hsel
      have HEX := Lib.hid hex
      clear hsel hex
      go_wp2_with fail
      refine (select_any _ N f _ _ (HV.out.drewN _) (HT2.out.drewN _)).mono ?_
      rintro e w' ⟨rfl, m1, rfl⟩
      rw [HSEL.out]
      go_wp2_with fail
      refine (len_any _ N f _ (HV.out.drewN _)).mono ?_
      rintro e w' ⟨rfl, rfl⟩
      go_wp2_with fail
      refine (excess_any _ N f _ _ (HV.out.drewN _)).mono ?_
      rintro e w' ⟨rfl, m2, rfl⟩
      rw [HEX.out]
      go_wp2_with fail
      refine (len_any _ N f _ (HV.out.drewN _)).mono ?_
      rintro e w' ⟨rfl, rfl⟩
      go_wp2
      try rw [Exit.noGoto_ret]
      go_ret
      exact ⟨rfl, belowN HB2.out _⟩
end Go.Proofs.YtldjemekncfmeaaDoor
