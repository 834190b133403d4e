/-
  The law ParensDirectory: its walk. It returns true, at every argument; what was there stays as it is.
-/
import Derived.Test.YtldjemekncfmeaaDoorTabl
namespace Go.Proofs.YtldjemekncfmeaaDoor
open Go.RowKit

/-- a vector of no bits answers as one would -/
theorem no_open (i : Int) : opB (fun _ => false) 0 i = false := by unfold opB; simp
theorem no_rank (i : Int) : rankI (fun _ => false) 0 i = 0 := by unfold rankI; rw [show (min i ((0 : Nat) : Int)).toNat = 0 from by omega]; rfl
theorem no_ex (i : Int) : exI (fun _ => false) 0 i = 0 := by unfold exI; rw [show (max 0 (min i ((0 : Nat) : Int))).toNat = 0 from by omega]; rfl
theorem no_in (i : Int) : inB 0 i = false := by unfold inB; simp
theorem no_sel (i : Int) : selI (fun _ => false) 0 i = -1 := by unfold selI; rw [if_neg (by rw [show Lp.cnt (fun _ => false) 0 = 0 from rfl]; omega)]
theorem no_close (i : Int) : closeI (fun _ => false) 0 i = -1 := by unfold closeI; rw [no_open]; rfl
theorem no_opens (i : Int) : openI (fun _ => false) 0 i = -1 := by unfold openI; rw [no_in]; rfl
theorem no_encl (i : Int) : enclI (fun _ => false) 0 i = -1 := by unfold enclI; rw [no_in]; rfl
theorem no_size (i : Int) : sizeI (fun _ => false) 0 i = 0 := by unfold sizeI; rw [no_in]; rfl
theorem no_child (i k : Int) : childI (fun _ => false) 0 i k = -1 := by unfold childI; rw [no_in]; rfl
theorem no_dir (p : Option Addr) : dirI p 0 = 0 := by cases p <;> rfl
theorem vec_nil (w : World) : Vec w none 0 (fun _ => false) := ⟨by omega, fun _ _ => rfl, .inl ⟨rfl, rfl⟩⟩
theorem vec_zero (w : World) : Vec (w.alloc (.cells #[.int .i64 0, .slice none 0 0, .slice none 0 0, .slice none 0 0, .slice none 0 0] 42)) (some ⟨w.heap.size, 0, none⟩) 0 (fun _ => false) := by
  refine ⟨by omega, fun _ _ => rfl, .inr ⟨w.heap.size, none, none, none, none, 0, 0, 0, 0, fun _ => 0, fun _ => 0, fun _ => 0, rfl, ?_⟩⟩
  refine ⟨?_, ?_, ?_, ?_, ?_, .inl rfl, .inl rfl, .inl rfl, .inl rfl, fun q hq => ?_, fun q hq => ?_⟩
  all_goals first
    | (rw [World.cell?_alloc_mark]; rfl)
    | (exact absurd hq (by unfold nw; omega))

set_option maxRecDepth 100000 in
set_option maxHeartbeats 2000000 in
theorem dir_walk (w : World) (hT : Tab w) (A : Option Addr) (l cp : Nat) (ys : Nat → BitVec 64) (hs : IS w A l (fun i => .int .u64 (U (ys i)))) (hl : l ≤ 17592186044416) (n i : Int) (hi : Fits63 i) :
    Calls Tryd.prog 8 #[.slice A l cp, .int .i64 n, .int .i64 i] w (TrueIs w) := by
  have HT := Lib.hid hT
  have HS := Lib.hid hs
  clear hT hs
  go_enter Tryd.func8, Tryd.ntmps8
  go_wp2_with fail
  refine (shown_any _ HT.out).mono ?_
  rintro e w1 ⟨rfl, hb1⟩
  have HB1 := Lib.hid hb1
  clear hb1
  go_wp2_with fail
  refine (new_any A l cp ys n _ (HS.out.keep fun a _ e => (HB1.out.cell (p := a) (World.block_lt_of_cell? _ _ e)).trans e) hl).mono ?_
  rintro e w2 ⟨g, rfl, hv, hb2⟩
  have HV := Lib.hid hv
  have hb3 : Below w.heap.size w w2 := HB1.out.trans (hb2.mono HB1.out.size)
  have HB2 := Lib.hid hb3
  have HT2 := Lib.hid (HT.out.below hb3)
  clear hb2 hb3 hv
  go_wp2
  have hsz := HB2.out.size
  have hv0 := HV.out.below ((Below.refl _ _).alloc (Nat.le_refl _) (.cells #[.int .i64 0, .slice none 0 0, .slice none 0 0, .slice none 0 0, .slice none 0 0] 42))
  have hz0 := vec_zero w2
  have ht0 := HT2.out.below ((Below.refl _ _).alloc (Nat.le_refl _) (.cells #[.int .i64 0, .slice none 0 0, .slice none 0 0, .slice none 0 0, .slice none 0 0] 42))
  have hb0 : Below w.heap.size w (w2.alloc (.cells #[.int .i64 0, .slice none 0 0, .slice none 0 0, .slice none 0 0, .slice none 0 0] 42)) := HB2.out.alloc hsz _
  generalize hZ : (w2.alloc (.cells #[.int .i64 0, .slice none 0 0, .slice none 0 0, .slice none 0 0, .slice none 0 0] 42)) = W0 at *
  have HVZ := Lib.hid hv0
  have HZ0 := Lib.hid hz0
  have HTZ := Lib.hid ht0
  have HBZ := Lib.hid hb0
  clear hv0 hz0 ht0 hb0 hZ hsz
  go_loopw [11] (fun s11 wr => ∃ k : Nat, s11 = .int .i64 k ∧ k ≤ 2 ∧ ∃ m, wr = W0.drewN m) (fun s11 _ => 2 - (intOf s11).toNat)
  case atStart => exact ⟨0, rfl, by omega, 0, rfl⟩
  case round =>
    obtain ⟨k, rfl, hk, m, rfl⟩ := hrel
    have hk3 : k = 0 ∨ k = 1 ∨ k = 2 := by omega
    rcases hk3 with rfl | rfl | rfl
    · have HZ := Lib.hid (vec_nil W0)
      go_wp2_with fail
      refine (len_any _ 0 (fun _ => false) _ (HZ.out.drewN _)).mono ?_
      rintro e w' ⟨rfl, rfl⟩
      go_wp2_with fail
      refine (opens_any _ 0 (fun _ => false) i _ (HZ.out.drewN _)).mono ?_
      rintro e w' ⟨rfl, rfl⟩
      rw [no_open]
      go_wp2_with fail
      refine (rank_any _ 0 (fun _ => false) i _ (HZ.out.drewN _)).mono ?_
      rintro e w' ⟨rfl, m2, rfl⟩
      rw [no_rank]
      go_wp2_with fail
      refine (select_any _ 0 (fun _ => false) i _ (HZ.out.drewN _) (HTZ.out.drewN _)).mono ?_
      rintro e w' ⟨rfl, m3, rfl⟩
      rw [no_sel]
      go_wp2_with fail
      refine (excess_any _ 0 (fun _ => false) i _ (HZ.out.drewN _)).mono ?_
      rintro e w' ⟨rfl, m4, rfl⟩
      rw [no_ex]
      go_wp2_with fail
      refine (close_any _ 0 (fun _ => false) i _ (HZ.out.drewN _)).mono ?_
      rintro e w' ⟨rfl, m5, rfl⟩
      rw [no_close]
      go_wp2_with fail
      refine (open_any _ 0 (fun _ => false) i _ (HZ.out.drewN _)).mono ?_
      rintro e w' ⟨rfl, m6, rfl⟩
      rw [no_opens]
      go_wp2_with fail
      refine (enclose_any _ 0 (fun _ => false) i _ (HZ.out.drewN _)).mono ?_
      rintro e w' ⟨rfl, m7, rfl⟩
      rw [no_encl]
      go_wp2_with fail
      refine (size_any _ 0 (fun _ => false) i _ (HZ.out.drewN _)).mono ?_
      rintro e w' ⟨rfl, m8, rfl⟩
      rw [no_size]
      go_wp2_with fail
      refine (child_any _ 0 (fun _ => false) i i _ (HZ.out.drewN _) hi).mono ?_
      rintro e w' ⟨rfl, m9, rfl⟩
      rw [no_child]
      go_wp2_with fail
      refine (directory_any _ 0 (fun _ => false) _ (HZ.out.drewN _)).mono ?_
      rintro e w' ⟨rfl, m10, rfl⟩
      rw [no_dir]
      go_wp2
      go_roundw
      case rel => exact ⟨1, by go_num, by omega, _, rfl⟩
      case measure => simp [intOf]
    · have HZ := HZ0
      go_wp2_with fail
      refine (len_any _ 0 (fun _ => false) _ (HZ.out.drewN _)).mono ?_
      rintro e w' ⟨rfl, rfl⟩
      go_wp2_with fail
      refine (opens_any _ 0 (fun _ => false) i _ (HZ.out.drewN _)).mono ?_
      rintro e w' ⟨rfl, rfl⟩
      rw [no_open]
      go_wp2_with fail
      refine (rank_any _ 0 (fun _ => false) i _ (HZ.out.drewN _)).mono ?_
      rintro e w' ⟨rfl, m2, rfl⟩
      rw [no_rank]
      go_wp2_with fail
      refine (select_any _ 0 (fun _ => false) i _ (HZ.out.drewN _) (HTZ.out.drewN _)).mono ?_
      rintro e w' ⟨rfl, m3, rfl⟩
      rw [no_sel]
      go_wp2_with fail
      refine (excess_any _ 0 (fun _ => false) i _ (HZ.out.drewN _)).mono ?_
      rintro e w' ⟨rfl, m4, rfl⟩
      rw [no_ex]
      go_wp2_with fail
      refine (close_any _ 0 (fun _ => false) i _ (HZ.out.drewN _)).mono ?_
      rintro e w' ⟨rfl, m5, rfl⟩
      rw [no_close]
      go_wp2_with fail
      refine (open_any _ 0 (fun _ => false) i _ (HZ.out.drewN _)).mono ?_
      rintro e w' ⟨rfl, m6, rfl⟩
      rw [no_opens]
      go_wp2_with fail
      refine (enclose_any _ 0 (fun _ => false) i _ (HZ.out.drewN _)).mono ?_
      rintro e w' ⟨rfl, m7, rfl⟩
      rw [no_encl]
      go_wp2_with fail
      refine (size_any _ 0 (fun _ => false) i _ (HZ.out.drewN _)).mono ?_
      rintro e w' ⟨rfl, m8, rfl⟩
      rw [no_size]
      go_wp2_with fail
      refine (child_any _ 0 (fun _ => false) i i _ (HZ.out.drewN _) hi).mono ?_
      rintro e w' ⟨rfl, m9, rfl⟩
      rw [no_child]
      go_wp2_with fail
      refine (directory_any _ 0 (fun _ => false) _ (HZ.out.drewN _)).mono ?_
      rintro e w' ⟨rfl, m10, rfl⟩
      rw [no_dir]
      go_wp2
      go_roundw
      case rel => exact ⟨2, by go_num, by omega, _, rfl⟩
      case measure => simp [intOf]
    · have hN : clip n l ≤ 64 * l := by unfold clip; omega
      generalize hNN : clip n l = N at *
      have hdg : dirI (some ⟨g, 0, none⟩) N = 3 * nw N := rfl
      have hnw : ((N : Int) + 63) / 64 = (nw N : Int) := by unfold nw; omega
      have hnb : nw N ≤ 17592186044416 := by unfold nw; omega
      have hg1 : (0 : Int) ≤ 3 * (nw N : Int) := by omega
      have hg2 : 3 * (nw N : Int) ≤ 5 + 5 * (nw N : Int) := by omega
      have HDG := Lib.hid hdg
      clear hNN hdg
      go_wp2_with fail
      refine (directory_any _ _ _ _ (HVZ.out.drewN _)).mono ?_
      rintro e w' ⟨rfl, m1, rfl⟩
      rw [HDG.out]
      go_wp2_with fail
      refine (directory_any _ _ _ _ (HVZ.out.drewN _)).mono ?_
      rintro e w' ⟨rfl, m2, rfl⟩
      rw [HDG.out]
      go_wp2_with fail
      refine (len_any _ _ _ _ (HVZ.out.drewN _)).mono ?_
      rintro e w' ⟨rfl, rfl⟩
      go_wp2
      try rw [Exit.noGoto_ret]
      go_ret
      exact ⟨rfl, belowN HBZ.out _⟩
theorem dir_law (w : World) (hT : Tab w) (A : Option Addr) (l cp : Nat) (ys : Nat → BitVec 64) (hs : IS w A l (fun i => .int .u64 (U (ys i)))) (hl : l ≤ 17592186044416) (n : Int) (_hn : (Lit.int .i64 n).wf = true) (i : Int) (hi : (Lit.int .i64 i).wf = true) :
    Calls Tryd.prog 8 #[.slice A l cp, .int .i64 n, .int .i64 i] w (TrueIs w) :=
  dir_walk w hT A l cp ys hs hl n i (fits_of hi)
end Go.Proofs.YtldjemekncfmeaaDoor
