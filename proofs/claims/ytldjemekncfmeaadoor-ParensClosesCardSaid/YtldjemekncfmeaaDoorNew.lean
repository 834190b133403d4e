/-
  New: what each call returns: a vector of the bits, in memory of its own. For all words up to 2^44 and every n; what was there stays as it is.
-/
import Derived.Test.YtldjemekncfmeaaDoorNewp
import Derived.Test.YtldjemekncfmeaaDoorNewq
import Derived.Deep.RegionHeld3
import Derived.Deep.RegionLaw
import Derived.Deep.DeepCutAuto
namespace Go.Proofs.YtldjemekncfmeaaDoor
open Go.RowKit

attribute [local go_sem] U_sub1 U_and
set_option maxRecDepth 100000 in
set_option maxHeartbeats 4000000 in
theorem new_made (A : Option Addr) (l cp : Nat) (ys : Nat → BitVec 64) (n : Int) (w : World) (hs : IS w A l (fun i => .int .u64 (U (ys i)))) (hl : l ≤ 17592186044416) :
    Calls Tryd.prog 11 #[.slice A l cp, .int .i64 n] w (MadeIs ys (clip n l) w) := by
  have hN : clip n l ≤ 64 * l := by unfold clip; omega
  have hcl : ((clip n l : Nat) : Int) = max 0 (min n (64 * l)) := by unfold clip; omega
  generalize clip n l = N at *
  have HS := Lib.hid hs
  have hcs : (n < 0 ∧ n < 64 * (l : Int) ∧ (N : Int) = 0) ∨ (n = 0 ∧ 0 < l ∧ (N : Int) = 0) ∨ (0 < n ∧ n < 64 * (l : Int) ∧ n = N) ∨ (n = 64 * (l : Int) ∧ 0 < l ∧ (N : Int) = 64 * l) ∨ (n = 0 ∧ l = 0 ∧ (N : Int) = 0) ∨ (64 * (l : Int) < n ∧ 0 < l ∧ (N : Int) = 64 * l) ∨ (64 * (l : Int) < n ∧ l = 0 ∧ (N : Int) = 0) := by omega
  have HCS := Lib.hid hcs
  clear hcs hs hcl
  go_enter Tryd.func11, Tryd.ntmps11
  go_upto_region 1 with (fail)
  go_cut [1] (fun s1 wx => s1 = .int .i64 N ∧ w = wx)
  case first =>
    rcases HCS.out with ⟨h1, h2, h3⟩ | ⟨rfl, h2, h3⟩ | ⟨h1, h2, rfl⟩ | ⟨rfl, h2, h3⟩ | ⟨rfl, rfl, h3⟩ | ⟨h1, h2, h3⟩ | ⟨h1, rfl, h3⟩
    all_goals
      go_wp2_with fail
      go_meet
      exact ⟨by first | rfl | (rw [h3] <;> rfl) | (rw [h3]; go_num), rfl⟩
  case rest =>
    obtain ⟨rfl, hwc⟩ := hcut
    subst hwc
    go_wp2
    go_loopw [6, 7, 27] (fun s6 s7 s27 wr => ∃ (q : Nat) (v1 v2 v3 v4 : Value), q ≤ nw N ∧ s27 = .int .i64 q ∧ s6 = .int .i64 (Lp.cnt (bitF ys N) (64 * q)) ∧ s7 = .int .i64 (Lp.ex (bitF ys N) (min (64 * q) N)) ∧ Made w wr w.heap.size ys N q q v1 v2 v3 v4) (fun _ _ s27 _ => nw N - (intOf s27).toNat)
    case atStart =>
      refine ⟨0, .slice none 0 0, .slice none 0 0, .slice none 0 0, .slice none 0 0, Nat.zero_le _, rfl, rfl, ?_, ⟨(Below.refl _ _).alloc (Nat.le_refl _) _, Nat.le_refl _, Blk.newAt _ _ _ rfl, World.ownsRow_nil _ _ _ _, World.ownsRow_nil _ _ _ _, World.ownsRow_nil _ _ _ _, World.ownsRow_nil _ _ _ _, apart_nil _, apart_nil _, apart_nil _, apart_nil _, apart_nil _, apart_nil _⟩⟩
      rw [show min (64 * 0) N = 0 from by omega]; rfl
    case round =>
      obtain ⟨q, v1, v2, v3, v4, hq, rfl, rfl, rfl, hmade⟩ := hrel
      have HM := Lib.hid hmade
      clear hmade
      have hnw : ((N : Int) + 64 - 1) / 64 = (nw N : Int) := by unfold nw; omega
      by_cases hlt : q < nw N
      · have hqi : (q : Int) < ((N : Int) + 64 - 1) / 64 := by omega
        have hql : q < l := by unfold nw at hlt; omega
        have hqN : 64 * q < N := by unfold nw at hlt; omega
        have hqli : (q : Int) < (l : Int) := by omega
        obtain ⟨b, off, rfl, hc⟩ := HS.out.resolve_left (by omega)
        have e1 := (HM.out.below.cell (p := ⟨b, off + q, none⟩) (World.block_lt_of_cell? _ _ (hc q hql))).trans (hc q hql)
        clear hc
        have hcb := Lp.cnt_le (bitF ys N) (64 * q)
        have hxb := Lp.ex_bound (bitF ys N) (min (64 * q) N)
        have hmn : min (64 * q) N = 64 * q := by omega
        rw [hmn] at hxb ⊢
        obtain ⟨hxb1, hxb2⟩ := hxb
        generalize hC : Lp.cnt (bitF ys N) (64 * q) = C at *
        generalize hX : Lp.ex (bitF ys N) (64 * q) = X at *
        have HC := Lib.hid hC
        have HX := Lib.hid hX
        clear hC hX hmn hnw
        go_upto_region 8 with (fail)
        go_cut [10] (fun s10 wx => s10 = .int .i64 (haveN N q) ∧ wr = wx)
        case first =>
          have hh : (64 < (N : Int) - q * 64 ∧ haveN N q = 64) ∨ ((N : Int) - q * 64 = 64 ∧ haveN N q = 64) ∨ ((N : Int) - q * 64 < 64 ∧ ((haveN N q : Nat) : Int) = (N : Int) - q * 64) := by unfold haveN; omega
          rcases hh with ⟨h1, h2⟩ | ⟨h1, h2⟩ | ⟨h1, h2⟩
          all_goals
            go_wp2_with fail
            go_meet
            exact ⟨by first | (rw [h2] <;> first | rfl | go_num) | (rw [h2, h1]; rfl), rfl⟩
        case rest =>
          obtain ⟨rfl, hwc⟩ := hcut
          subst hwc
          have hh64 : haveN N q ≤ 64 := by unfold haveN; omega
          have hwx : haveN N q < 64 → wordX ys N q = ys q &&& ((1#64 <<< haveN N q) - 1#64) := fun h => by unfold wordX; rw [if_pos h]
          have hwy : ¬ haveN N q < 64 → wordX ys N q = ys q := fun h => by unfold wordX; rw [if_neg h]
          have HWX := Lib.hid hwx
          have HWY := Lib.hid hwy
          have hhq : haveN N q = min 64 (N - 64 * q) := rfl
          generalize hH : haveN N q = H at *
          have HH := Lib.hid hH
          have HHQ := Lib.hid hhq
          clear hwx hwy hH hhq
          have hpow := U_pow H hh64
          go_upto_if 40 with (fail)
          go_cut [9] (fun s9 wx => s9 = .int .u64 (U (wordX ys N q)) ∧ wr = wx)
          case first =>
            by_cases h64 : H < 64
            · have h64i : (H : Int) < 64 := by omega
              go_wp2_with fail
              go_meet
              exact ⟨by rw [HWX.out h64], rfl⟩
            · have h64i : ¬ (H : Int) < 64 := by omega
              go_wp2_with fail
              go_meet
              exact ⟨by rw [HWY.out h64], rfl⟩
          case rest =>
            obtain ⟨rfl, hwc⟩ := hcut
            subst hwc
            go_upto_region 11 with (fail)
            go_cut [54] (fun _ wx => ∃ v1' v2', Made w wx w.heap.size ys N (q + 1) q v1' v2' v3 v4)
            case first =>
              refine words_step w wr ys N q C v1 v2 v3 v4 HM.out HC.out (by omega) _ _ _ _ _ _ _ _ _ _ _ _ _ _ _ _ _ _ _ _ _ _ _ _ _ _ _ _ _ _ _ _ _ _ _ _ _ _ _ _ _ _ _ _ _ _ _ _ _ _ _ _ _ _ _ _ _ _ _ _ _ _ _ _ _ _ _ _ _ _ _ _ _ _ _ _ _ _ _ _ _ _ _ _ _ _ _ _ _ _ _ _ _ _ _ _ _ _ _ _ _ _ _ _ _ _ _ _ _ _ _ _ _ _ _ ?_
              intros
              rename_i wx v1' v2' hm
              dsimp only
              go_step
              go_meet
              exact ⟨v1', v2', hm⟩
            case rest =>
              obtain ⟨v1', v2', hmade2⟩ := hcut
              have HM2 := Lib.hid hmade2
              clear hmade2 HM e1
              go_wp2
              go_loopw [7, 11, 12, 71] (fun s7 s11 s12 s71 wr' => ∃ i : Nat, s71 = .int .i64 i ∧ i ≤ H ∧ s7 = .int .i64 (Lp.ex (bitF ys N) (64 * q + i)) ∧ s11 = .int .i64 (loE (bitF ys N) (64 * q) i) ∧ s12 = .int .i64 (hiE (bitF ys N) (64 * q) i) ∧ wc = wr') (fun _ _ _ s71 _ => H - (intOf s71).toNat)
              case atStart => exact ⟨0, rfl, Nat.zero_le _, by rw [Nat.add_zero, HX.out], by rw [loE, HX.out], by rw [hiE, HX.out], rfl⟩
              case round =>
                obtain ⟨i, rfl, hiH, rfl, rfl, rfl, hww⟩ := hrel
                subst hww
                have hb1 := Lp.ex_bound (bitF ys N) (64 * q + i)
                have hb2 := loE_bound (bitF ys N) (64 * q) i
                have hb3 := hiE_bound (bitF ys N) (64 * q) i
                by_cases hi : i < H
                · have hii : (i : Int) < H := by omega
                  have hbit := wordX_bit ys N q i (by omega)
                  have hex1 := @Lp.ex_open (bitF ys N) (64 * q + i)
                  have hex0 := @Lp.ex_shut (bitF ys N) (64 * q + i)
                  have hlo : loE (bitF ys N) (64 * q) (i + 1) = min (loE (bitF ys N) (64 * q) i) (Lp.ex (bitF ys N) (64 * q + i + 1)) := rfl
                  have hhi : hiE (bitF ys N) (64 * q) (i + 1) = max (hiE (bitF ys N) (64 * q) i) (Lp.ex (bitF ys N) (64 * q + i + 1)) := rfl
                  generalize Lp.ex (bitF ys N) (64 * q + i) = Y at *
                  generalize loE (bitF ys N) (64 * q) i = L at *
                  generalize hiE (bitF ys N) (64 * q) i = M at *
                  obtain ⟨hb11, hb12⟩ := hb1
                  obtain ⟨hb21, hb22⟩ := hb2
                  obtain ⟨hb31, hb32⟩ := hb3
                  have hsh : ∀ x : BitVec 64, U x / (2 : Int) ^ i = U (x >>> i) := fun x => U_shr x _
                  cases hf : bitF ys N (64 * q + i)
                  · have hx := hex0 hf
                    have hbt := bit_zero (wordX ys N q) i (by rw [hbit, hf])
                    have hx' : Lp.ex (bitF ys N) (64 * q + (i + 1)) = Y - 1 := hx
                    rw [hx] at hlo hhi
                    have HLO := Lib.hid hlo
                    have HHI := Lib.hid hhi
                    have HXX := Lib.hid hx'
                    clear hlo hhi hx hx' hex0 hex1 hf hbit HM2 HS
                    go_upto_region 17 with (fail)
                    rcases Int.lt_trichotomy L (Y - 1) with hL | rfl | hL
                    all_goals
                      rcases Int.lt_trichotomy M (Y - 1) with hM | rfl | hM
                      all_goals
                        go_wp2
                        go_roundw
                        case rel => exact ⟨i + 1, by go_num, hi, by rw [HXX.out] <;> first | rfl | (congr 1 <;> omega), by rw [HLO.out] <;> congr 1 <;> omega, by rw [HHI.out] <;> congr 1 <;> omega, by first | trivial | rfl⟩
                        case measure => simp [intOf] <;> omega
                  · have hx := hex1 hf
                    have hbt := bit_one (wordX ys N q) i (by rw [hbit, hf])
                    have hx' : Lp.ex (bitF ys N) (64 * q + (i + 1)) = Y + 1 := hx
                    rw [hx] at hlo hhi
                    have HLO := Lib.hid hlo
                    have HHI := Lib.hid hhi
                    have HXX := Lib.hid hx'
                    clear hlo hhi hx hx' hex0 hex1 hf hbit HM2 HS
                    go_upto_region 17 with (fail)
                    rcases Int.lt_trichotomy L (Y + 1) with hL | rfl | hL
                    all_goals
                      rcases Int.lt_trichotomy M (Y + 1) with hM | rfl | hM
                      all_goals
                        go_wp2
                        go_roundw
                        case rel => exact ⟨i + 1, by go_num, hi, by rw [HXX.out] <;> first | rfl | (congr 1 <;> omega), by rw [HLO.out] <;> congr 1 <;> omega, by rw [HHI.out] <;> congr 1 <;> omega, by first | trivial | rfl⟩
                        case measure => simp [intOf] <;> omega
                · obtain rfl : H = i := by omega
                  generalize hX' : Lp.ex (bitF ys N) (64 * q + H) = X' at *
                  generalize hL : loE (bitF ys N) (64 * q) H = L at *
                  generalize hM : hiE (bitF ys N) (64 * q) H = M at *
                  have HX' := Lib.hid hX'
                  have HL := Lib.hid hL
                  have HMM := Lib.hid hM
                  clear hX' hL hM HWX HWY hpow HCS hi hiH
                  go_upto_region 19 with (fail)
                  go_cut [98] (fun _ wx => ∃ v3' v4', Made w wx w.heap.size ys N (q + 1) (q + 1) v1' v2' v3' v4')
                  case first =>
                    refine bounds_step w wc ys N q L M v1' v2' v3 v4 HM2.out (by rw [HH.out, HL.out]) (by rw [HH.out, HMM.out]) (by omega) _ _ _ _ _ _ _ _ _ _ _ _ _ _ _ _ _ _ _ _ _ _ _ _ _ _ _ _ _ _ _ _ _ _ _ _ _ _ _ _ _ _ _ _ _ _ _ _ _ _ _ _ _ _ _ _ _ _ _ _ _ _ _ _ _ _ _ _ _ _ _ _ _ _ _ _ _ _ _ _ _ _ _ _ _ _ _ _ _ _ _ _ _ _ _ _ _ _ _ _ _ _ _ _ _ _ _ _ _ _ _ _ _ _ _ ?_
                    intros
                    rename_i wx v3' v4' hm
                    dsimp only
                    go_step
                    go_meet
                    exact ⟨v3', v4', hm⟩
                  case rest =>
                    obtain ⟨v3', v4', hmade3⟩ := hcut
                    have HM3 := Lib.hid hmade3
                    clear hmade3 HM2
                    have hcnt := word_cnt ys N q
                    rw [HC.out] at hcnt
                    have hcn := Lp.cnt_le (wordX ys N q).getLsbD 64
                    have HCNT := Lib.hid hcnt
                    clear hcnt
                    go_wp2_with (go_at_call 33; refine (ones_any _ _).mono ?_; rintro e w' ⟨rfl, rfl⟩)
                    go_roundw
                    case rel =>
                      refine ⟨q + 1, v1', v2', v3', v4', hlt, by go_num, by rw [HCNT.out] <;> go_num, ?_, HM3.out⟩
                      rw [show min (64 * (q + 1)) N = 64 * q + H from by have := HHQ.out; omega, HX'.out]
                    case measure => simp [intOf] <;> omega
      · go_wp2
        go_ret
        obtain rfl : q = nw N := by omega
        exact ⟨v1, v2, v3, v4, rfl, HM.out⟩
theorem new_any (A : Option Addr) (l cp : Nat) (ys : Nat → BitVec 64) (n : Int) (w : World) (hs : IS w A l (fun i => .int .u64 (U (ys i)))) (hl : l ≤ 17592186044416) :
    Calls Tryd.prog 11 #[.slice A l cp, .int .i64 n] w (NewIs ys (clip n l) w) :=
  (new_made A l cp ys n w hs hl).mono fun _ _ h => h.vec (by unfold clip; omega)
end Go.Proofs.YtldjemekncfmeaaDoor
