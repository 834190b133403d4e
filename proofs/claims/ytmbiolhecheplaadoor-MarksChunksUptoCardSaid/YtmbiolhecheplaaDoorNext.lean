/-
  The next place where something stands: what a call of Next returns. For every index of up to 2^42 words and every place; nothing that was there is written. Condition: the table of math/bits lies.
-/
import Derived.Test.YtmbiolhecheplaaDoorTz
import Derived.Deep.DeepCutAuto
import Derived.Lib.QuoteBits
import Derived.Deep.QuietTactic
import Derived.BigQuiet
namespace Go.Proofs.YtmbiolhecheplaaDoor
open Go.RowKit

/-- the words of an index: mw q c is the c-th mask of word q -/
def WS (w : World) (A : Option Addr) (k : Nat) (mw : Nat → Nat → BitVec 64) : Prop := k = 0 ∨ ∃ b off, A = some ⟨b, off, none⟩ ∧ ∀ q, q < k → ∀ c, c < 7 → w.cell? ⟨b, off + q * 7 + c, none⟩ = some (.int .u64 (U (mw q c)))
theorem WS.keep {w w' : World} {A : Option Addr} {k : Nat} {mw : Nat → Nat → BitVec 64} (h : WS w A k mw) (hk : ∀ a v, w.cell? a = some v → w'.cell? a = some v) : WS w' A k mw := by
  rcases h with h | ⟨b, off, e, hc⟩
  · exact .inl h
  · exact .inr ⟨b, off, e, fun q hq c h7 => hk _ _ (hc q hq c h7)⟩
/-- what stands in a word, and at a place -/
def allD (mw : Nat → Nat → BitVec 64) (q : Nat) : BitVec 64 := mw q 0 ||| mw q 2 ||| mw q 3 ||| mw q 4 ||| mw q 5
def standsD (mw : Nat → Nat → BitVec 64) (j : Nat) : Bool := (allD mw (j / 64)).getLsbD (j % 64)
/-- the first place from I on, in k words; -1 -/
def firstD (mw : Nat → Nat → BitVec 64) (k I : Nat) : Int := Lp.leastD (fun j => decide (I ≤ j) && standsD mw j) (64 * k)
def nextI (mw : Nat → Nat → BitVec 64) (k : Nat) (n i : Int) : Int := if max i 0 < n then (if 0 ≤ firstD mw k (max i 0).toNat then min (firstD mw k (max i 0).toNat) n else n) else max n 0
/-- a word of ones -/
def onesD : BitVec 64 := BitVec.allOnes 64
/-- a word as it is looked at: from I on -/
def lookD (mw : Nat → Nat → BitVec 64) (I q : Nat) : BitVec 64 := if q = I / 64 then allD mw q &&& (onesD <<< (I % 64)) else allD mw q
theorem look_bit (mw : Nat → Nat → BitVec 64) (I q t : Nat) (hq : I / 64 ≤ q) (ht : t < 64) : (lookD mw I q).getLsbD t = (decide (I ≤ 64 * q + t) && standsD mw (64 * q + t)) := by
  have e1 : (64 * q + t) / 64 = q := by omega
  have e2 : (64 * q + t) % 64 = t := by omega
  unfold lookD standsD
  rw [e1, e2]
  split
  · rename_i h
    rw [BitVec.getLsbD_and, onesD, BitVec.getLsbD_shiftLeft, BitVec.getLsbD_allOnes, Bool.and_comm]
    congr 1
    by_cases h2 : I ≤ 64 * q + t
    · simp [h2, ht]; omega
    · simp [h2]; omega
  · rename_i h
    have : I ≤ 64 * q + t := by omega
    simp [this]
theorem low_ne {y : BitVec 64} (h : y ≠ 0#64) : 0 < Lp.cnt y.getLsbD 64 := by
  rcases Nat.eq_zero_or_pos (Lp.cnt y.getLsbD 64) with h0 | h0
  · exfalso
    apply h
    apply Lo.ext64
    intro i hi
    rw [BitVec.getLsbD_zero]
    cases hb : y.getLsbD i
    · rfl
    · have h1 := Lp.cnt_mono y.getLsbD (show i + 1 ≤ 64 from hi)
      rw [Lp.cnt, hb] at h1
      simp at h1; omega
  · exact h0
theorem low_none {y : BitVec 64} {t : Nat} (h : Lp.cnt y.getLsbD t = 0) : ∀ i, i < t → y.getLsbD i = false := by
  intro i hi
  cases hb : y.getLsbD i
  · rfl
  · have h1 := Lp.cnt_mono y.getLsbD (show i + 1 ≤ t from hi)
    rw [Lp.cnt, hb] at h1
    simp at h1; omega
/-- nothing stands from I on, ahead of word q -/
def NoneTo (mw : Nat → Nat → BitVec 64) (I q : Nat) : Prop := ∀ j, I ≤ j → j < 64 * q → standsD mw j = false
theorem none_next {mw : Nat → Nat → BitVec 64} {I q : Nat} (hq : I / 64 ≤ q) (h : NoneTo mw I q) (hz : lookD mw I q = 0#64) : NoneTo mw I (q + 1) := fun j h1 h2 => by
  by_cases h3 : j < 64 * q
  · exact h j h1 h3
  · have hb := look_bit mw I q (j - 64 * q) hq (by omega)
    rw [hz, BitVec.getLsbD_zero, show 64 * q + (j - 64 * q) = j from by omega] at hb
    simpa [h1] using hb.symm
theorem first_here {mw : Nat → Nat → BitVec 64} {I q k : Nat} (hq : I / 64 ≤ q) (hk : q < k) (h : NoneTo mw I q) (hz : lookD mw I q ≠ 0#64) : firstD mw k I = ((64 * q + low (lookD mw I q) : Nat) : Int) ∧ low (lookD mw I q) < 64 := by
  obtain ⟨h1, h2, h3⟩ := low_is _ (low_ne hz)
  refine ⟨?_, h1⟩
  rw [look_bit mw I q _ hq h1] at h2
  refine Lp.leastD_some (by omega) h2 fun j hj => ?_
  by_cases hI : I ≤ j
  · by_cases hj2 : j < 64 * q
    · simp [h j hI hj2]
    · have h4 := low_none h3 (j - 64 * q) (by omega)
      rw [look_bit mw I q _ hq (by omega), show 64 * q + (j - 64 * q) = j from by omega] at h4
      exact h4
  · simp [hI]
theorem first_none {mw : Nat → Nat → BitVec 64} {I q k : Nat} (hk : k ≤ q) (h : NoneTo mw I q) : firstD mw k I = -1 := Lp.leastD_none fun j hj => by
  by_cases hI : I ≤ j
  · simp [h j hI (by omega)]
  · simp [hI]
/-- an int's upper bound -/
structure Fits63 (k : Int) : Prop where
  out : k < 9223372036854775808
theorem quiet_n {P : Program} {f : FuncId} {args : Array Value} {w : World} {n : Nat} {v : Value}
    (h : Calls P f args (w.drewN n) fun e w' => e = .returned v ∧ w.drewN n = w') : Calls P f args (w.drewN n) fun e w'' => e = .returned v ∧ ∃ m, w'' = w.drewN m :=
  h.mono fun _ _ ⟨he, hm⟩ => ⟨he, n, hm.symm⟩
theorem U_shlA (x : BitVec 64) (k : Nat) : IntKind.u64.wrap (U x * 2 ^ k) = U (x <<< k) := by
  have e : U x * 2 ^ k = ((x.toNat * 2 ^ k : Nat) : Int) := by unfold U; rw [Int.natCast_mul, Int.natCast_pow]; rfl
  rw [e, wrap_nat]
  congr 1
  apply BitVec.eq_of_toNat_eq
  rw [BitVec.toNat_ofNat, BitVec.toNat_shiftLeft, Nat.shiftLeft_eq]
theorem U_ones_shl (k : Nat) : IntKind.u64.wrap (18446744073709551615 * 2 ^ k) = U (onesD <<< k) := by
  have h : U onesD = 18446744073709551615 := by unfold U onesD; rfl
  rw [← h]; exact U_shlA _ _

attribute [local go_sem] U_and U_or U_ones_shl
set_option maxRecDepth 100000 in
set_option maxHeartbeats 2000000 in
theorem next_any (A : Option Addr) (k cp : Nat) (mw : Nat → Nat → BitVec 64) (n i : Int) (w : World) (hs : WS w A k mw) (hT : Tab w) (hk : k ≤ 4398046511104) (hn : Fits63 n) (hi : Fits63 i) :
    Calls Tryd.prog 16 #[.agg #[.slice A k cp, .int .i64 n], .int .i64 i] w fun e w' => e = .returned (.int .i64 (nextI mw k n i)) ∧ Below w.heap.size w w' := by
  have HS := Lib.hid hs
  have HT := Lib.hid hT
  have HN := Lib.hid hn
  have hI : ∃ I : Nat, (I : Int) = max i 0 := ⟨(max i 0).toNat, by omega⟩
  obtain ⟨I, hI⟩ := hI
  have hnx : nextI mw k n i = if (I : Int) < n then (if 0 ≤ firstD mw k I then min (firstD mw k I) n else n) else max n 0 := by unfold nextI; rw [← hI, Int.toNat_natCast]
  rw [hnx]
  generalize hR : (if (I : Int) < n then (if 0 ≤ firstD mw k I then min (firstD mw k I) n else n) else max n 0) = R
  have HR := Lib.hid hR
  have hI63 : Fits63 (I : Int) := ⟨by have := hi.out; omega⟩
  have hcs : (i < 0 ∧ (I : Int) = 0) ∨ (i = 0 ∧ (I : Int) = 0) ∨ (0 < i ∧ i = (I : Int)) := by omega
  have HCS := Lib.hid hcs
  have HI63 := Lib.hid hI63
  clear hs hT hn hi hI hnx hcs hI63 hR
  go_enter Tryd.func16, Tryd.ntmps16
  go_upto_region 1 with (fail)
  go_cut [1] (fun s1 wx => s1 = .int .i64 I ∧ (w.alloc (.cells #[.slice A k cp, .int .i64 n] 27)) = wx)
  case first =>
    rcases HCS.out with ⟨h1, h2⟩ | ⟨rfl, h2⟩ | ⟨h1, rfl⟩
    all_goals
      go_wp2_with fail
      go_meet
      exact ⟨by first | rfl | (rw [h2] <;> rfl), rfl⟩
  case rest =>
    obtain ⟨rfl, hwc⟩ := hcut
    have hblk : Blk wc w.heap.size 27 #[.slice A k cp, .int .i64 n] := by rw [← hwc]; exact Blk.new _ _ _
    have hbel : Below w.heap.size w wc := by rw [← hwc]; exact (Below.refl _ _).alloc (Nat.le_refl _) _
    have HBLK := Lib.hid hblk
    have HBEL := Lib.hid hbel
    clear hblk hbel hwc
    have hw64 : IntKind.i64.wrap ((I : Int) / 64) = ((I / 64 : Nat) : Int) := by
      have := HI63.out.out
      rw [show (I : Int) / 64 = ((I / 64 : Nat) : Int) from rfl]; exact Go.Lib.wrap_i64_small _ (by omega)
    go_wp2
    go_loopw [5] (fun s5 wr => ∃ q : Nat, s5 = .int .i64 q ∧ I / 64 ≤ q ∧ (q ≤ k ∨ q = I / 64) ∧ Hid (NoneTo mw I q) ∧ Below w.heap.size w wr ∧ Blk wr w.heap.size 27 #[.slice A k cp, .int .i64 n]) (fun s5 _ => k - (intOf s5).toNat)
    case atStart =>
      refine ⟨I / 64, rfl, Nat.le_refl _, .inr rfl, ?_, HBEL.out, HBLK.out⟩
      show NoneTo mw I (I / 64)
      intro j j1 j2; omega
    case round =>
      obtain ⟨q, rfl, hIq, hqk, hnone, hbel, hblk⟩ := hrel
      have HNONE := Lib.hid hnone.out
      have HB := Lib.hid hbel
      have c0 := hblk.cell 0
      have c1 := hblk.cell 1
      simp at c0 c1
      have HBK := Lib.hid hblk
      have hlt0 := hblk.lt
      clear hnone hblk
      by_cases hq : q < k
      · have hqi : (q : Int) < k := by omega
        by_cases hIn : (I : Int) < n
        · obtain ⟨b, off, rfl, hc⟩ := HS.out.resolve_left (by omega)
          have hcw : ∀ c, c < 7 → wr.cell? ⟨b, off + q * 7 + c, none⟩ = some (.int .u64 (U (mw q c))) := fun c h7 => (hbel.cell (p := ⟨b, off + q * 7 + c, none⟩) (World.block_lt_of_cell? _ _ (hc q hq c h7))).trans (hc q hq c h7)
          have d0 : wr.cell? ⟨b, off + q * 7, none⟩ = some (.int .u64 (U (mw q 0))) := hcw 0 (by omega)
          have d1 := hcw 1 (by omega)
          have d2 := hcw 2 (by omega)
          have d3 := hcw 3 (by omega)
          have d4 := hcw 4 (by omega)
          have d5 := hcw 5 (by omega)
          have d6 := hcw 6 (by omega)
          clear hc hcw hbel
          go_upto_region 7 with (fail)
          have hbel1 : Below w.heap.size w (wr.alloc (.cells #[.int .u64 (U (mw q 0)), .int .u64 (U (mw q 1)), .int .u64 (U (mw q 2)), .int .u64 (U (mw q 3)), .int .u64 (U (mw q 4)), .int .u64 (U (mw q 5)), .int .u64 (U (mw q 6))] 45)) := HB.out.alloc HB.out.size _
          have hblk1 := HBK.out.alloc (.cells #[.int .u64 (U (mw q 0)), .int .u64 (U (mw q 1)), .int .u64 (U (mw q 2)), .int .u64 (U (mw q 3)), .int .u64 (U (mw q 4)), .int .u64 (U (mw q 5)), .int .u64 (U (mw q 6))] 45)
          have hall : mw q 0 ||| mw q 2 ||| mw q 3 ||| mw q 4 ||| mw q 5 = allD mw q := rfl
          rw [hall]
          generalize (wr.alloc (.cells #[.int .u64 (U (mw q 0)), .int .u64 (U (mw q 1)), .int .u64 (U (mw q 2)), .int .u64 (U (mw q 3)), .int .u64 (U (mw q 4)), .int .u64 (U (mw q 5)), .int .u64 (U (mw q 6))] 45)) = W1 at hbel1 hblk1 ⊢
          have e0 := hblk1.cell 0
          have e1 := hblk1.cell 1
          simp at e0 e1
          have HB1 := Lib.hid hbel1
          have HK1 := Lib.hid hblk1
          clear hbel1 hblk1 hall d0 d1 d2 d3 d4 d5 d6 c0 c1
          go_upto_if 47 with (fail)
          go_cut [7] (fun s7 wx => s7 = .int .u64 (U (lookD mw I q)) ∧ W1 = wx)
          case first =>
            by_cases hq0 : q = I / 64
            · have hqe : ((q : Int) == (I : Int) / 64) = true := beq_iff_eq.2 (by omega)
              have hlk : lookD mw I q = allD mw q &&& (onesD <<< (I % 64)) := by rw [lookD, if_pos hq0]
              have HLK := Lib.hid hlk
              clear hlk
              go_wp2_with fail
              go_meet
              exact ⟨by rw [HLK.out, hq0], rfl⟩
            · have hqe : ((q : Int) == (I : Int) / 64) = false := beq_eq_false_iff_ne.2 (by omega)
              have hlk : lookD mw I q = allD mw q := by rw [lookD, if_neg hq0]
              have HLK := Lib.hid hlk
              clear hlk
              go_wp2_with fail
              go_meet
              exact ⟨by rw [HLK.out], rfl⟩
          case rest =>
            obtain ⟨rfl, hwc⟩ := hcut
            subst hwc
            by_cases hz : lookD mw I q = 0#64
            · have hnn := none_next hIq HNONE.out hz
              have hu : U (lookD mw I q) = 0 := by rw [hz]; rfl
              rw [hu]
              have HNN := Lib.hid hnn
              clear hnn hu hz
              go_wp2
              go_roundw
              case rel => exact ⟨q + 1, by go_num, by omega, .inl hq, HNN, HB1.out, HK1.out⟩
              case measure => simp [intOf] <;> omega
            · have hu : (U (lookD mw I q) == 0) = false := by
                rw [beq_eq_false_iff_ne]
                intro e
                exact hz (U_inj.1 (e.trans U_zero.symm))
              obtain ⟨hf, hlow⟩ := first_here (k := k) hIq hq HNONE.out hz
              have hp := low_ne hz
              have HF := Lib.hid hf
              have HP := Lib.hid hp
              clear hf hp hz
              generalize lookD mw I q = y at *
              have hn0 : 0 < n := by omega
              have htri : (((64 * q + low y : Nat) : Int) < n) ∨ ((64 * q + low y : Nat) : Int) = n ∨ n < ((64 * q + low y : Nat) : Int) := by omega
              generalize hly : low y = t at *
              have HLY := Lib.hid hly
              clear hly
              have htz : ∀ m, Calls Tryd.prog 27 #[.int .u64 (U y)] (W1.drewN m) fun e w' => e = .returned (.int .i64 t) ∧ W1.drewN m = w' := fun m => by
                have := tz_any y (W1.drewN m) ((HT.out.below HB1.out).drewN m) HP.out
                rwa [HLY.out] at this
              have HTZ := Lib.hid htz
              clear htz
              have hRm : R = min ((64 * q + t : Nat) : Int) n := by rw [← HR.out, if_pos hIn, HF.out, if_pos (by omega)]
              rcases htri with h1 | h1 | h1
              · have hRR : ((64 * q + t : Nat) : Int) = R := by omega
                have h2 : (q : Int) * 64 + t < n := by omega
                clear hRm h1
                go_wp2
                go_quiet ((go_at_call 27; exact quiet_n (HTZ.out _)))
                go_wp2
                try rw [Exit.noGoto_ret]
                go_ret
                exact ⟨by first | rfl | (rw [← hRR] <;> first | rfl | go_num), belowN HB1.out _⟩
              · have hRR : n = R := by omega
                have h2 : n = (q : Int) * 64 + t := by omega
                clear hRm h1
                go_wp2
                go_quiet ((go_at_call 27; exact quiet_n (HTZ.out _)))
                go_wp2
                try rw [Exit.noGoto_ret]
                go_ret
                exact ⟨by first | rfl | (rw [← hRR] <;> first | rfl | go_num), belowN HB1.out _⟩
              · have hRR : n = R := by omega
                have h2 : n < (q : Int) * 64 + t := by omega
                clear hRm h1
                go_wp2
                go_quiet ((go_at_call 27; exact quiet_n (HTZ.out _)))
                go_wp2
                try rw [Exit.noGoto_ret]
                go_ret
                exact ⟨by first | rfl | (rw [← hRR] <;> first | rfl | go_num), belowN HB1.out _⟩
        · have hRm : R = max n 0 := by rw [← HR.out, if_neg hIn]
          rcases Int.lt_trichotomy n 0 with hn0 | hn0 | hn0
          · have hR0 : R = 0 := by omega
            clear hRm
            go_wp2
            try rw [Exit.noGoto_ret]
            go_ret
            exact ⟨by first | rfl | (rw [hR0] <;> rfl), HB.out⟩
          · subst hn0
            have hR0 : R = 0 := by omega
            clear hRm
            go_wp2
            try rw [Exit.noGoto_ret]
            go_ret
            exact ⟨by first | rfl | (rw [hR0] <;> rfl), HB.out⟩
          · have hR0 : R = n := by omega
            clear hRm
            go_wp2
            try rw [Exit.noGoto_ret]
            go_ret
            exact ⟨by first | rfl | (rw [hR0] <;> rfl), HB.out⟩
      · have hRm : R = max n 0 := by
          rw [← HR.out, first_none (by omega) HNONE.out]
          split
          · rw [if_neg (by omega)]; omega
          · rfl
        rcases Int.lt_trichotomy n 0 with hn0 | hn0 | hn0
        · have hR0 : R = 0 := by omega
          clear hRm
          go_wp2
          try rw [Exit.noGoto_ret]
          go_ret
          exact ⟨by first | rfl | (rw [hR0] <;> rfl), HB.out⟩
        · subst hn0
          have hR0 : R = 0 := by omega
          clear hRm
          go_wp2
          try rw [Exit.noGoto_ret]
          go_ret
          exact ⟨by first | rfl | (rw [hR0] <;> rfl), HB.out⟩
        · have hR0 : R = n := by omega
          clear hRm
          go_wp2
          try rw [Exit.noGoto_ret]
          go_ret
          exact ⟨by first | rfl | (rw [hR0] <;> rfl), HB.out⟩
end Go.Proofs.YtmbiolhecheplaaDoor
