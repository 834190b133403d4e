/-
  The reference's Opens, Rank, Excess, Close, Open, Select: what each call returns, of any bools up to 2^50, at any place; nothing is written.
-/
import Derived.Test.YtldjemekncfmeaaDoorSelb
namespace Go.Proofs.YtldjemekncfmeaaDoor
open Go.RowKit

/-- bools in a slice -/
def BL (w : World) (A : Option Addr) (n : Nat) (f : Nat → Bool) : Prop := IS w A n (fun j => .bool (f j))
theorem BL.drewN {w : World} {A : Option Addr} {n : Nat} {f : Nat → Bool} (h : BL w A n f) (k : Nat) : BL (w.drewN k) A n f := h.keep fun _ _ e => e

set_option maxHeartbeats 400000 in
theorem ropens_any (A : Option Addr) (n cp : Nat) (f : Nat → Bool) (i : Int) (w : World) (h : BL w A n f) :
    Calls Tryd.prog 15 #[.slice A n cp, .int .i64 i] w fun e w' => e = .returned (.bool (opB f n i)) ∧ w = w' := by
  by_cases h1 : 0 ≤ i
  · by_cases h2 : i < n
    · obtain ⟨k, rfl⟩ := Int.eq_ofNat_of_zero_le h1
      have hk : k < n := by omega
      obtain ⟨b, off, rfl, hc⟩ := h.resolve_left (by omega)
      have e1 := hc k hk
      have hr : opB f n (k : Int) = f k := by unfold opB inB; simp; omega
      rw [hr]
      clear hr hc h
      go_enter Tryd.func15, Tryd.ntmps15
      go_wp2
      go_ret
      exact ⟨rfl, rfl⟩
    · have hr : opB f n i = false := by unfold opB inB; simp; omega
      rw [hr]
      clear hr h
      go_enter Tryd.func15, Tryd.ntmps15
      go_wp2
      go_ret
      exact ⟨rfl, rfl⟩
  · have hr : opB f n i = false := by unfold opB inB; simp; omega
    rw [hr]
    clear hr h
    go_enter Tryd.func15, Tryd.ntmps15
    go_wp2
    go_ret
    exact ⟨rfl, rfl⟩

set_option maxHeartbeats 400000 in
theorem rrank_any (A : Option Addr) (n cp : Nat) (f : Nat → Bool) (i : Int) (w : World) (h : BL w A n f) (hn : n ≤ 1125899906842624) :
    Calls Tryd.prog 17 #[.slice A n cp, .int .i64 i] w (Ret (.int .i64 (rankI f n i)) w) := by
  have HS := Lib.hid h
  clear h
  have hm : ∃ t, t = (min i (n : Int)).toNat ∧ t ≤ n ∧ (t : Int) = max 0 (min i n) := ⟨_, rfl, by omega, by omega⟩
  obtain ⟨t, ht, htn, hti⟩ := hm
  have hr : rankI f n i = Lp.cnt f t := by unfold rankI; rw [ht]
  rw [hr]
  clear hr ht
  have HT := Lib.hid hti
  clear hti
  go_enter Tryd.func17, Tryd.ntmps17
  go_wp2
  go_loopw [5, 6] (fun s5 s6 wr => ∃ k : Nat, s6 = .int .i64 k ∧ s5 = .int .i64 (Lp.cnt f k) ∧ k ≤ t ∧ ∃ m, wr = w.drewN m) (fun _ s6 _ => t - (intOf s6).toNat)
  case atStart => exact ⟨0, rfl, rfl, Nat.zero_le _, 0, rfl⟩
  case round =>
    obtain ⟨k, rfl, rfl, hkt, m, rfl⟩ := hrel
    have hcb := Lp.cnt_le f k
    by_cases hk : k < t
    · have h1 : (k : Int) < i := by have := HT.out; omega
      have h2 : (k : Int) < n := by omega
      obtain ⟨b, off, rfl, hc⟩ := HS.out.resolve_left (by omega)
      have e1 : (w.drewN m).cell? ⟨b, off + k, none⟩ = some (.bool (f k)) := (World.cell?_drewN w m ⟨b, off + k, none⟩).trans (hc k (by omega))
      clear hc
      cases hf : f k
      · rw [hf] at e1
        have HF := Lib.hid hf
        clear hf
        go_wp2
        go_roundw
        case rel => exact ⟨k + 1, by go_num, by rw [Lp.cnt, HF.out]; rfl, hk, _, rfl⟩
        case measure => simp [intOf] <;> omega
      · rw [hf] at e1
        have HF := Lib.hid hf
        clear hf
        go_wp2
        go_roundw
        case rel => exact ⟨k + 1, by go_num, by rw [Lp.cnt, HF.out]; go_num, hk, _, rfl⟩
        case measure => simp [intOf] <;> omega
    · obtain rfl : k = t := by omega
      by_cases h1 : (k : Int) < i
      · have h2 : ¬ (k : Int) < n := by have := HT.out; omega
        go_wp2
        go_ret
        exact ⟨rfl, _, rfl⟩
      · go_wp2
        go_ret
        exact ⟨rfl, _, rfl⟩

set_option maxHeartbeats 400000 in
theorem rexcess_any (A : Option Addr) (n cp : Nat) (f : Nat → Bool) (i : Int) (w : World) (h : BL w A n f) (hn : n ≤ 1125899906842624) :
    Calls Tryd.prog 19 #[.slice A n cp, .int .i64 i] w (Ret (.int .i64 (exI f n i)) w) := by
  have HS := Lib.hid h
  clear h
  have hm : ∃ t, t = (max 0 (min i (n : Int))).toNat ∧ t ≤ n ∧ (t : Int) = max 0 (min i n) := ⟨_, rfl, by omega, by omega⟩
  obtain ⟨t, ht, htn, hti⟩ := hm
  have hr : exI f n i = Lp.ex f t := by unfold exI; rw [ht]
  rw [hr]
  clear hr ht
  have HT := Lib.hid hti
  clear hti
  go_enter Tryd.func19, Tryd.ntmps19
  go_wp2
  go_loopw [5, 6] (fun s5 s6 wr => ∃ k : Nat, s6 = .int .i64 k ∧ s5 = .int .i64 (Lp.ex f k) ∧ k ≤ t ∧ ∃ m, wr = w.drewN m) (fun _ s6 _ => t - (intOf s6).toNat)
  case atStart => exact ⟨0, rfl, rfl, Nat.zero_le _, 0, rfl⟩
  case round =>
    obtain ⟨k, rfl, rfl, hkt, m, rfl⟩ := hrel
    obtain ⟨hcb1, hcb2⟩ := Lp.ex_bound f k
    by_cases hk : k < t
    · have h1 : (k : Int) < i := by have := HT.out; omega
      have h2 : (k : Int) < n := by omega
      obtain ⟨b, off, rfl, hc⟩ := HS.out.resolve_left (by omega)
      have e1 : (w.drewN m).cell? ⟨b, off + k, none⟩ = some (.bool (f k)) := (World.cell?_drewN w m ⟨b, off + k, none⟩).trans (hc k (by omega))
      clear hc
      have hex := @Lp.ex_open f k
      have hsh := @Lp.ex_shut f k
      generalize Lp.ex f k = X at *
      cases hf : f k
      · rw [hf] at e1
        have HF := Lib.hid (hsh hf)
        clear hf hex hsh
        go_wp2
        go_roundw
        case rel => exact ⟨k + 1, by go_num, by rw [HF.out] <;> go_num, hk, _, rfl⟩
        case measure => simp [intOf] <;> omega
      · rw [hf] at e1
        have HF := Lib.hid (hex hf)
        clear hf hex hsh
        go_wp2
        go_roundw
        case rel => exact ⟨k + 1, by go_num, by rw [HF.out] <;> go_num, hk, _, rfl⟩
        case measure => simp [intOf] <;> omega
    · obtain rfl : k = t := by omega
      by_cases h1 : (k : Int) < i
      · have h2 : ¬ (k : Int) < n := by have := HT.out; omega
        go_wp2
        go_ret
        exact ⟨rfl, _, rfl⟩
      · go_wp2
        go_ret
        exact ⟨rfl, _, rfl⟩

set_option maxHeartbeats 400000 in
theorem rclose_any (A : Option Addr) (n cp : Nat) (f : Nat → Bool) (i : Int) (w : World) (h : BL w A n f) (hn : n ≤ 1125899906842624) :
    Calls Tryd.prog 23 #[.slice A n cp, .int .i64 i] w (Ret (.int .i64 (closeI f n i)) w) := by
  have HS := Lib.hid h
  clear h
  by_cases h0 : opB f n i = true
  · have hh := h0
    unfold opB inB at hh
    simp only [Bool.and_eq_true, decide_eq_true_eq] at hh
    obtain ⟨⟨hi0, hi1⟩, hfi⟩ := hh
    obtain ⟨i, rfl⟩ := Int.eq_ofNat_of_zero_le hi0
    rw [Int.toNat_natCast] at hfi
    have hin : i < n := by omega
    rw [closeI_nat]
    have HO := Lib.hid h0
    have hexi := Lp.ex_bound f i
    have HFI := Lib.hid hfi
    clear h0 hfi hi0 hi1
    obtain ⟨b, off, rfl, hc⟩ := HS.out.resolve_left (by omega)
    have HCC := Lib.hid hc
    clear hc
    go_enter Tryd.func23, Tryd.ntmps23
    go_wp2_with fail
    refine (ropens_any _ n _ f _ _ HS.out).mono ?_
    rintro e w' ⟨rfl, rfl⟩
    rw [HO.out]
    go_wp2
    go_loopw [5, 6] (fun s5 s6 wr => ∃ k : Nat, s6 = .int .i64 k ∧ s5 = .int .i64 (Lp.ex f k - Lp.ex f i) ∧ i ≤ k ∧ k ≤ n ∧ Hid (∀ j, i < j → j ≤ k → Lp.ex f i < Lp.ex f j) ∧ ∃ m, wr = w.drewN m) (fun _ s6 _ => n - (intOf s6).toNat)
    case atStart =>
      refine ⟨i, rfl, by go_num, Nat.le_refl _, by omega, ?_, 0, rfl⟩
      show ∀ j, i < j → j ≤ i → Lp.ex f i < Lp.ex f j
      intro j j1 j2; omega
    case round =>
      obtain ⟨k, rfl, rfl, hik, hkn, hinv, m, rfl⟩ := hrel
      have HI := Lib.hid hinv
      clear hinv
      obtain ⟨hcb1, hcb2⟩ := Lp.ex_bound f k
      by_cases hk : k < n
      · have h2 : (k : Int) < n := by omega
        have e1 : (w.drewN m).cell? ⟨b, off + k, none⟩ = some (.bool (f k)) := (World.cell?_drewN w m ⟨b, off + k, none⟩).trans (HCC.out k (by omega))
        obtain ⟨hX1, hX2⟩ := hexi
        cases hf : f k
        · rw [hf] at e1
          have hki : i < k := by
            rcases Nat.lt_or_ge i k with h | h
            · exact h
            · rw [show k = i from by omega] at hf; rw [HFI.out] at hf; cases hf
          have hpos := HI.out k hki (Nat.le_refl _)
          have hsh := Lp.ex_shut hf
          have HF := Lib.hid hsh
          clear hf hsh
          by_cases hz : Lp.ex f k - Lp.ex f i - 1 = 0
          · have hr : Lp.closeD f n i = (k : Int) := Lp.closeD_some HFI.out hki hk (by rw [HF.out]; omega) HI.out
            have hzi : Lp.ex f k - Lp.ex f i = 1 := by omega
            rw [hzi]
            rw [hr]
            clear hr hz hzi
            go_wp2
            try rw [Exit.noGoto_ret]
            go_ret
            exact ⟨rfl, _, rfl⟩
          · have hD : ∃ D : Int, D = Lp.ex f k - Lp.ex f i ∧ 2 ≤ D ∧ D ≤ 2 * n := ⟨_, rfl, by omega, by omega⟩
            obtain ⟨D, hD1, hD2, hD3⟩ := hD
            rw [← hD1]
            have HD := Lib.hid hD1
            have hz2 : ¬ D - 1 = 0 := by omega
            clear hz hD1 hcb1 hcb2 hX1 hX2 hpos
            go_wp2
            go_roundw
            case rel =>
              refine ⟨k + 1, by go_num, by rw [HF.out, show Lp.ex f k - 1 - Lp.ex f i = D - 1 from by have := HD.out; omega] <;> go_num, by omega, hk, ?_, _, rfl⟩
              show ∀ j, i < j → j ≤ k + 1 → Lp.ex f i < Lp.ex f j
              intro j j1 j2
              by_cases hj : j = k + 1
              · rw [hj, HF.out]; have := HD.out; omega
              · exact HI.out j j1 (by omega)
            case measure => simp [intOf] <;> omega
        · rw [hf] at e1
          have hnn : Lp.ex f i ≤ Lp.ex f k := by
            rcases Nat.lt_or_ge i k with h | h
            · have := HI.out k h (Nat.le_refl _); omega
            · rw [show k = i from by omega]; omega
          have HF := Lib.hid (Lp.ex_open hf)
          clear hf
          have hD : ∃ D : Int, D = Lp.ex f k - Lp.ex f i ∧ 0 ≤ D ∧ D ≤ 2 * n := ⟨_, rfl, by omega, by omega⟩
          obtain ⟨D, hD1, hD2, hD3⟩ := hD
          rw [← hD1]
          have HD := Lib.hid hD1
          have hz2 : ¬ D + 1 = 0 := by omega
          clear hD1 hcb1 hcb2 hX1 hX2 hnn
          go_wp2
          go_roundw
          case rel =>
            refine ⟨k + 1, by go_num, by rw [HF.out, show Lp.ex f k + 1 - Lp.ex f i = D + 1 from by have := HD.out; omega] <;> go_num, by omega, hk, ?_, _, rfl⟩
            show ∀ j, i < j → j ≤ k + 1 → Lp.ex f i < Lp.ex f j
            intro j j1 j2
            by_cases hj : j = k + 1
            · rw [hj, HF.out]; have := HD.out; omega
            · exact HI.out j j1 (by omega)
          case measure => simp [intOf] <;> omega
      · obtain rfl : k = n := by omega
        go_wp2
        go_ret
        exact ⟨by rw [Lp.closeD_none HI.out] <;> rfl, _, rfl⟩
  · have h0' : opB f n i = false := by simpa using h0
    have hr : closeI f n i = -1 := by unfold closeI; rw [h0']; rfl
    rw [hr]
    have HO := Lib.hid h0'
    clear h0 h0' hr
    go_enter Tryd.func23, Tryd.ntmps23
    go_wp2_with fail
    refine (ropens_any _ n _ f _ _ HS.out).mono ?_
    rintro e w' ⟨rfl, rfl⟩
    rw [HO.out]
    go_wp2
    try rw [Exit.noGoto_ret]
    go_ret
    exact ⟨rfl, 0, rfl⟩
end Go.Proofs.YtldjemekncfmeaaDoor
