/-
  A vector's Opens, Rank, Excess: what each call returns. For every vector of at most 2^50 bits, nil too, and every place; nothing is written.
-/
import Derived.Test.YtldjemekncfmeaaDoorVec
namespace Go.Proofs.YtldjemekncfmeaaDoor
open Go.RowKit

/-- does the bracket at a place open? -/
def opB (f : Nat → Bool) (n : Nat) (i : Int) : Bool := inB n i && f i.toNat

theorem IS.at {w : World} {A : Option Addr} {n : Nat} {h : Nat → Value} (hs : IS w A n h) (hn : 0 < n) : ∃ b off, A = some ⟨b, off, none⟩ ∧ ∀ i, i < n → w.cell? ⟨b, off + i, none⟩ = some (h i) := hs.resolve_left (by omega)

theorem U_and1 (x : BitVec 64) : (bits .and .u64 (U x) 1 == 1) = x.getLsbD 0 := by
  have h : bits .and .u64 (U x) (U 1#64) = U (x &&& 1#64) := U_and x 1#64
  rw [U_one] at h
  rw [h]
  have h2 : (U (x &&& 1#64) == U 1#64) = x.getLsbD 0 := by
    rw [U_beq]
    have e : x &&& 1#64 = Lo.one (x.getLsbD 0) := by
      apply Lo.ext64
      intro i hi
      rw [BitVec.getLsbD_and, Lo.one_lsb, BitVec.getLsbD_one]
      by_cases h0 : i = 0
      · subst h0; simp
      · simp [h0]
    rw [e]
    cases x.getLsbD 0 <;> rfl
  rwa [U_one] at h2
theorem shr_bit (x : BitVec 64) (n : Nat) : (x >>> n).getLsbD 0 = x.getLsbD n := by rw [BitVec.getLsbD_ushiftRight, Nat.add_zero]

attribute [local go_sem] U_and1 shr_bit
set_option maxHeartbeats 400000 in
theorem opens_any (p : Option Addr) (n : Nat) (f : Nat → Bool) (i : Int) (w : World) (h : Vec w p n f) :
    Calls Tryd.prog 14 #[.pointer p, .int .i64 i] w fun e w' => e = .returned (.bool (opB f n i)) ∧ w = w' := by
  have HV := Lib.hid h
  by_cases h0 : inB n i = true
  · have h1 : 0 ≤ i ∧ i < n := by simpa [inB] using h0
    obtain ⟨k, rfl⟩ := Int.eq_ofNat_of_zero_le h1.1
    obtain ⟨hn, hz, ⟨rfl, rfl⟩ | ⟨g, Aw, Ar, Al, Am, cw, cr, cl, cm, xs, ls, ms, rfl, v⟩⟩ := h
    · omega
    have hkn : k < n := by omega
    have hq : k / 64 < nw n := by unfold nw; omega
    obtain ⟨bw, ow, rfl, hw⟩ := v.s1.at (by omega)
    have c1 := v.c1
    have hc := hw (k / 64) hq
    have hbit : (xs (k / 64)).getLsbD (k % 64) = f k := by rw [v.bits _ hq _ (by omega)]; congr 1; omega
    have hr : opB f n (k : Int) = f k := by rw [opB, h0]; rfl
    have HR := Lib.hid hr
    have HI := Lib.hid h0
    have hsh : ∀ x : BitVec 64, U x / (2 : Int) ^ (k % 64) = U (x >>> (k % 64)) := fun x => U_shr x _
    have hqi : (k : Int) / 64 < (nw n : Int) := by omega
    clear v hw hr h0 h1 hz
    generalize hfk : f k = fk at *
    have HF := Lib.hid hfk
    clear hfk
    have hbit' : (xs (k / 64))[k % 64] = fk := by rw [← BitVec.getLsbD_eq_getElem]; exact hbit
    go_enter Tryd.func14, Tryd.ntmps14
    go_wp2_with fail
    refine (in_any _ n f _ _ HV.out).mono ?_
    rintro e w' ⟨rfl, rfl⟩
    rw [HI.out]
    go_wp2
    go_ret
    exact ⟨by rw [HR.out]; rfl, rfl⟩
  · have h0' : inB n i = false := by simpa using h0
    have hr : opB f n i = false := by rw [opB, h0']; rfl
    have HR := Lib.hid hr
    have HI := Lib.hid h0'
    clear h h0 h0' hr
    go_enter Tryd.func14, Tryd.ntmps14
    go_wp2_with fail
    refine (in_any _ n f _ _ HV.out).mono ?_
    rintro e w' ⟨rfl, rfl⟩
    rw [HI.out]
    go_wp2
    go_ret
    exact ⟨by rw [HR.out]; rfl, rfl⟩

/-! ### Rank -/
theorem cnt_add (f : Nat → Bool) (a b : Nat) : Lp.cnt f (a + b) = Lp.cnt f a + Lp.cnt (fun i => f (a + i)) b := by
  induction b with
  | zero => rfl
  | succ b ih => rw [← Nat.add_assoc, Lp.cnt, Lp.cnt, ih]; omega
theorem cnt_cut (p : Nat → Bool) (r : Nat) : ∀ m, r ≤ m → Lp.cnt (fun i => p i && decide (i < r)) m = Lp.cnt p r := by
  intro m
  induction m with
  | zero => intro h; rw [show r = 0 from by omega]; rfl
  | succ m ih =>
    intro h
    by_cases e : r = m + 1
    · subst e; exact Lp.cnt_congr fun j hj => by simp [hj]
    · rw [Lp.cnt, ih (by omega)]; simp; omega
theorem low_lsb (x : BitVec 64) (r : Nat) (hr : r ≤ 64) : ∀ i, i < 64 → (x &&& ((1#64 <<< r) - 1#64)).getLsbD i = (x.getLsbD i && decide (i < r)) := by
  intro i hi
  rw [BitVec.getLsbD_and, Lo.have_lsb r hr i hi]
theorem U_sub1 (x : BitVec 64) : IntKind.u64.wrap (U x - 1) = U (x - 1#64) := by have := U_sub x 1#64; rwa [U_one] at this
theorem U_pow (n : Nat) (hn : n ≤ 64) : IntKind.u64.wrap (2 ^ n) = U (1#64 <<< n) := by
  have h := U_shl 1#64 n hn
  rwa [U_one, Int.one_mul] at h

/-- how many of the first i bits open -/
def rankI (f : Nat → Bool) (n : Nat) (i : Int) : Int := Lp.cnt f (min i n).toNat

theorem rank_whole (x : BitVec 64) (f : Nat → Bool) (q k : Nat) (hk : k = 64 * q + 64) (hb : ∀ i, i < 64 → x.getLsbD i = f (64 * q + i)) : (Lp.cnt f (64 * q) : Int) + (Lp.cnt x.getLsbD 64 : Int) = (Lp.cnt f k : Int) := by
  subst hk
  rw [cnt_add f (64 * q) 64, Lp.cnt_congr hb]; omega
theorem rank_part (x : BitVec 64) (f : Nat → Bool) (q r k : Nat) (hr : r ≤ 64) (hk : k = 64 * q + r) (hb : ∀ i, i < 64 → x.getLsbD i = f (64 * q + i)) : (Lp.cnt f (64 * q) : Int) + (Lp.cnt (x &&& ((1#64 <<< r) - 1#64)).getLsbD 64 : Int) = (Lp.cnt f k : Int) := by
  subst hk
  rw [cnt_add f (64 * q) r, Lp.cnt_congr (low_lsb x r hr), cnt_cut _ r 64 hr, Lp.cnt_congr (fun i hi => hb i (by omega))]; omega

attribute [local go_sem] U_sub1 U_and
set_option maxHeartbeats 1000000 in
theorem rank_any (p : Option Addr) (n : Nat) (f : Nat → Bool) (i : Int) (w : World) (h : Vec w p n f) :
    Calls Tryd.prog 16 #[.pointer p, .int .i64 i] w (Ret (.int .i64 (rankI f n i)) w) := by
  by_cases h0 : min i (n : Int) ≤ 0
  · have hr : rankI f n i = 0 := by unfold rankI; rw [show (min i (n : Int)).toNat = 0 from by omega]; rfl
    rw [hr]
    have HV := Lib.hid h
    clear h hr
    have hs : (i < n ∧ i ≤ 0) ∨ (i = n ∧ n = 0) ∨ ((n : Int) < i ∧ n = 0) := by omega
    clear h0
    rcases hs with ⟨s1, s2⟩ | ⟨rfl, rfl⟩ | ⟨s1, rfl⟩
    all_goals
      go_enter Tryd.func16, Tryd.ntmps16
      go_wp2_with fail
      refine (len_any _ _ f _ HV.out).mono ?_
      rintro e w' ⟨rfl, rfl⟩
      go_wp2
      go_ret
      exact Ret.same rfl
  · obtain ⟨k, hk⟩ := Int.eq_ofNat_of_zero_le (show 0 ≤ min i (n : Int) by omega)
    have hr : rankI f n i = (Lp.cnt f k : Int) := by unfold rankI; rw [hk]; rfl
    rw [hr]
    have HV := Lib.hid h
    have hs : (i < n ∧ i = k) ∨ (i = n ∧ n = k) ∨ ((n : Int) < i ∧ n = k) := by omega
    have hk1 : 0 < k := by omega
    have hk2 : k ≤ n := by omega
    clear h0 hk hr
    obtain ⟨hn, hz, ⟨rfl, rfl⟩ | ⟨g, Aw, Ar, Al, Am, cw, cr, cl, cm, xs, ls, ms, rfl, v⟩⟩ := h
    · omega
    have c1 := v.c1
    have c2 := v.c2
    by_cases h64 : k % 64 = 0
    · have hq : k / 64 - 1 < nw n := by unfold nw; omega
      obtain ⟨bw, ow, rfl, hw⟩ := v.s1.at (by omega)
      obtain ⟨br, or', rfl, hr⟩ := v.s2.at (by omega)
      have e1 := hw _ hq
      have e2 := hr _ hq
      have hres := rank_whole (xs (k / 64 - 1)) f (k / 64 - 1) k (by omega) (v.bits _ hq)
      have HRES := Lib.hid hres
      have hkb := Lp.cnt_le f k
      have hsum : (Lp.cnt f (64 * (k / 64 - 1)) : Int) + (Lp.cnt (xs (k / 64 - 1)).getLsbD 64 : Int) ≤ 1125899906842624 := by omega
      have ht : ((k : Int) % 64 == 0) = true := by simp; omega
      have hqi : (k : Int) / 64 - 1 < (nw n : Int) := by omega
      have hqj : 0 ≤ (k : Int) / 64 - 1 := by omega
      have hqn : ((k : Int) / 64 - 1).toNat = k / 64 - 1 := by omega
      clear v hw hr hres hz h64
      rcases hs with ⟨s1, rfl⟩ | ⟨rfl, rfl⟩ | ⟨s1, rfl⟩
      all_goals
        go_enter Tryd.func16, Tryd.ntmps16
        go_wp2_with fail
        refine (len_any _ _ f _ HV.out).mono ?_
        rintro e w' ⟨rfl, rfl⟩
        go_wp2
        go_quiet ((go_at_call 33; exact quiet_l (ones_any _ _)))
        go_wp2
        go_ret
        exact ⟨ret_i HRES.out, _, rfl⟩
    · have hq : k / 64 < nw n := by unfold nw; omega
      obtain ⟨bw, ow, rfl, hw⟩ := v.s1.at (by omega)
      obtain ⟨br, or', rfl, hr⟩ := v.s2.at (by omega)
      have e1 := hw _ hq
      have e2 := hr _ hq
      have hres := rank_part (xs (k / 64)) f (k / 64) (k % 64) k (by omega) (by omega) (v.bits _ hq)
      have HRES := Lib.hid hres
      have hkb := Lp.cnt_le f k
      have hsum : (Lp.cnt f (64 * (k / 64)) : Int) + (Lp.cnt ((xs (k / 64)) &&& ((1#64 <<< (k % 64)) - 1#64)).getLsbD 64 : Int) ≤ 1125899906842624 := by omega
      have ht : ((k : Int) % 64 == 0) = false := by simp; omega
      have hqi : (k : Int) / 64 < (nw n : Int) := by omega
      have hpow := U_pow (k % 64) (by omega)
      clear v hw hr hres hz h64
      rcases hs with ⟨s1, rfl⟩ | ⟨rfl, rfl⟩ | ⟨s1, rfl⟩
      all_goals
        go_enter Tryd.func16, Tryd.ntmps16
        go_wp2_with fail
        refine (len_any _ _ f _ HV.out).mono ?_
        rintro e w' ⟨rfl, rfl⟩
        go_wp2
        go_quiet ((go_at_call 33; exact quiet_l (ones_any _ _)))
        go_wp2
        go_ret
        exact ⟨ret_i HRES.out, _, rfl⟩

/-! ### Excess -/
def exI (f : Nat → Bool) (n : Nat) (i : Int) : Int := Lp.ex f (max 0 (min i n)).toNat
theorem exI_rank (f : Nat → Bool) (n : Nat) (i : Int) : exI f n i = 2 * rankI f n (max 0 (min i n)) - max 0 (min i n) := by
  unfold exI rankI
  rw [Lp.ex_cnt]
  rw [show (min (max 0 (min i (n : Int))) (n : Int)).toNat = (max 0 (min i (n : Int))).toNat from by omega]
  omega
theorem rankI_le (f : Nat → Bool) (n : Nat) (i : Int) : 0 ≤ rankI f n i ∧ rankI f n i ≤ n := by
  have := Lp.cnt_le f (min i n).toNat
  unfold rankI; omega

set_option maxHeartbeats 1000000 in
theorem excess_any (p : Option Addr) (n : Nat) (f : Nat → Bool) (i : Int) (w : World) (h : Vec w p n f) :
    Calls Tryd.prog 18 #[.pointer p, .int .i64 i] w (Ret (.int .i64 (exI f n i)) w) := by
  have hn := h.1
  have HV := Lib.hid h
  have hr := exI_rank f n i
  have hb := rankI_le f n (max 0 (min i n))
  generalize hx : exI f n i = x at *
  obtain ⟨k, hk⟩ : ∃ k : Int, k = max 0 (min i n) := ⟨_, rfl⟩
  rw [← hk] at hr hb
  have hs : (i < 0 ∧ i < n ∧ k = 0) ∨ (i = 0 ∧ 0 < n ∧ k = 0) ∨ (0 < i ∧ i < n ∧ i = k) ∨ (i = n ∧ 0 < n ∧ k = n) ∨ (i = n ∧ n = 0 ∧ k = 0) ∨ ((n : Int) < i ∧ 0 < n ∧ k = n) ∨ ((n : Int) < i ∧ n = 0 ∧ k = 0) := by omega
  have hk1 : 0 ≤ k := by omega
  have hk2 : k ≤ n := by omega
  generalize hy : rankI f n k = y at *
  have HY := Lib.hid hy
  have HR := Lib.hid hr
  obtain ⟨b1, b2⟩ := hb
  clear hk hr hx h hy
  have hrank : ∀ W : World, Vec W p n f → Calls Tryd.prog 16 #[.pointer p, .int .i64 k] W (Ret (.int .i64 y) W) := fun W hW => by
    have := rank_any p n f k W hW
    rwa [HY.out] at this
  have HRANK := Lib.hid hrank
  clear hrank
  rcases hs with ⟨s0, s1, rfl⟩ | ⟨rfl, s1, rfl⟩ | ⟨s0, s1, rfl⟩ | ⟨rfl, s1, rfl⟩ | ⟨rfl, rfl, rfl⟩ | ⟨s0, s1, rfl⟩ | ⟨s1, rfl, rfl⟩
  all_goals
    go_enter Tryd.func18, Tryd.ntmps18
    go_wp2_with fail
    refine (len_any _ _ f _ HV.out).mono ?_
    rintro e w' ⟨rfl, rfl⟩
    go_wp2_with fail
    refine (HRANK.out _ HV.out).mono ?_
    rintro e w' ⟨rfl, m, rfl⟩
    go_wp2
    go_ret
    exact ⟨ret_i (by have := HR.out; omega), m, rfl⟩
end Go.Proofs.YtldjemekncfmeaaDoor
