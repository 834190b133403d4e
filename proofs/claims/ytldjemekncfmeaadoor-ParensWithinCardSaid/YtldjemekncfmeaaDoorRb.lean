/-
  The reference's Open, Select: what each call returns, of any bools up to 2^50 (Select: 768), at any place; nothing is written.
-/
import Derived.Test.YtldjemekncfmeaaDoorRa
import Derived.Test.YtldjemekncfmeaaDoorBackw
namespace Go.Proofs.YtldjemekncfmeaaDoor
open Go.RowKit

theorem BL.at {w : World} {A : Option Addr} {n : Nat} {f : Nat → Bool} (h : BL w A n f) (h0 : 0 < n) : ∃ b off, A = some ⟨b, off, none⟩ ∧ ∀ i, i < n → ∀ m, (w.drewN m).cell? ⟨b, off + i, none⟩ = some (.bool (f i)) := by
  obtain ⟨b, off, e, hc⟩ := h.resolve_left (by omega)
  exact ⟨b, off, e, fun i hi m => hc i hi⟩

set_option maxHeartbeats 1000000 in
theorem ropen_any (A : Option Addr) (n cp : Nat) (f : Nat → Bool) (i : Int) (w : World) (h : BL w A n f) (hn : n ≤ 1125899906842624) :
    Calls Tryd.prog 25 #[.slice A n cp, .int .i64 i] w (Ret (.int .i64 (openI f n i)) w) := by
  have HS := Lib.hid h
  clear h
  by_cases h1 : 0 ≤ i
  · by_cases h2 : i < n
    · obtain ⟨i, rfl⟩ := Int.eq_ofNat_of_zero_le h1
      have hin : i < n := by omega
      obtain ⟨b, off, rfl, hc⟩ := HS.out.at (by omega)
      have e1 : w.cell? ⟨b, off + i, none⟩ = some (.bool (f i)) := hc i hin 0
      have HCC := Lib.hid hc
      clear hc
      cases hf : f i
      · have hr : openI f n (i : Int) = Lp.openD f n i := openI_at hin hf
        have hd : Lp.openD f n i = Lp.greatestD (fun k => f k && Lp.ex f k == Lp.ex f (i + 1)) i := by rw [Lp.openD, if_pos ⟨hin, hf⟩]
        rw [hr, hd]
        rw [hf] at e1
        have hE := exI_at f n (i + 1) (by omega)
        have hEb := Lp.ex_bound f (i + 1)
        generalize hEE : Lp.ex f (i + 1) = E at *
        have HE := Lib.hid hE
        have HEE := Lib.hid hEE
        clear hr hd hE hEE hf h1 h2
        obtain ⟨hE1, hE2⟩ := hEb
        go_enter Tryd.func25, Tryd.ntmps25
        go_wp2_with fail
        refine (rexcess_any _ n _ f ((i + 1 : Nat) : Int) _ HS.out hn).mono ?_
        rintro e w' ⟨rfl, m0, rfl⟩
        rw [HE.out]
        clear e1
        go_wp2
        go_loopw [5, 6, 7] (fun s5 s6 s7 wr => ∃ k : Nat, s7 = .int .i64 k ∧ k ≤ i ∧ s5 = .int .i64 (Lp.ex f k - E) ∧ s6 = .int .i64 (Lp.greatestD (fun k => f k && Lp.ex f k == E) k) ∧ ∃ m, wr = w.drewN m) (fun _ _ s7 _ => i - (intOf s7).toNat)
        case atStart => exact ⟨0, rfl, Nat.zero_le _, by rw [show Lp.ex f 0 = 0 from rfl] <;> congr 1 <;> omega, rfl, _, rfl⟩
        case round =>
          obtain ⟨k, rfl, hki, rfl, rfl, m, rfl⟩ := hrel
          obtain ⟨hX1, hX2⟩ := Lp.ex_bound f k
          by_cases hlt : k < i
          · have hlti : (k : Int) < i := by omega
            have e1 := HCC.out k (by omega) m
            have hgr : Lp.greatestD (fun k => f k && Lp.ex f k == E) (k + 1) = if (f k && Lp.ex f k == E) then (k : Int) else Lp.greatestD (fun k => f k && Lp.ex f k == E) k := rfl
            generalize Lp.greatestD (fun k => f k && Lp.ex f k == E) k = G at *
            have hop := @Lp.ex_open f k
            have hsh := @Lp.ex_shut f k
            generalize Lp.ex f k = X at *
            cases hf : f k
            · have hx := hsh hf
              rw [hf] at e1 hgr
              have HX := Lib.hid hx
              have HG := Lib.hid hgr
              clear hop hsh hx hgr hf
              go_wp2
              go_roundw
              case rel => exact ⟨k + 1, by go_num, hlt, by rw [HX.out] <;> congr 1 <;> omega, by rw [HG.out] <;> rfl, _, rfl⟩
              case measure => simp [intOf] <;> omega
            · have hx := hop hf
              rw [hf] at e1 hgr
              by_cases hz : X = E
              · subst hz
                have hz0 : X - X = 0 := by omega
                have hg2 : Lp.greatestD (fun k => f k && Lp.ex f k == X) (k + 1) = (k : Int) := by rw [hgr]; simp
                have HX := Lib.hid hx
                have HG := Lib.hid hg2
                clear hop hsh hx hgr hg2 hf
                rw [hz0]
                go_wp2
                go_roundw
                case rel => exact ⟨k + 1, by go_num, hlt, by rw [HX.out] <;> congr 1 <;> omega, by rw [HG.out] <;> rfl, _, rfl⟩
                case measure => simp [intOf] <;> omega
              · have hz0 : ¬ X - E = 0 := by omega
                have hg2 : Lp.greatestD (fun k => f k && Lp.ex f k == E) (k + 1) = G := by rw [hgr]; simp [hz]
                have HX := Lib.hid hx
                have HG := Lib.hid hg2
                clear hop hsh hx hgr hg2 hf hz
                go_wp2
                go_roundw
                case rel => exact ⟨k + 1, by go_num, hlt, by rw [HX.out] <;> congr 1 <;> omega, by rw [HG.out] <;> rfl, _, rfl⟩
                case measure => simp [intOf] <;> omega
          · obtain rfl : k = i := by omega
            go_wp2
            go_ret
            exact ⟨rfl, _, rfl⟩
      · have hr : openI f n (i : Int) = -1 := by
          unfold openI; rw [opB_at hin, hf]; simp
        rw [hr]
        rw [hf] at e1
        clear hr hf h1
        go_enter Tryd.func25, Tryd.ntmps25
        go_wp2
        try rw [Exit.noGoto_ret]
        go_ret
        exact ⟨rfl, 0, rfl⟩
    · have hr : openI f n i = -1 := by
        have : inB n i = false := by unfold inB; simp; omega
        unfold openI; rw [this]; rfl
      rw [hr]
      clear hr
      go_enter Tryd.func25, Tryd.ntmps25
      go_wp2
      try rw [Exit.noGoto_ret]
      go_ret
      exact ⟨rfl, 0, rfl⟩
  · have hr : openI f n i = -1 := by
      have : inB n i = false := by unfold inB; simp; omega
      unfold openI; rw [this]; rfl
    rw [hr]
    clear hr
    go_enter Tryd.func25, Tryd.ntmps25
    go_wp2
    try rw [Exit.noGoto_ret]
    go_ret
    exact ⟨rfl, 0, rfl⟩

/-- a number below nought, taken down by one again and again: it stays below, or it has turned round and is great -/
structure NegSt (s : Int) (i : Nat) : Prop where
  lo : -9223372036854775808 ≤ s
  hi : s < 9223372036854775808
  neg : s < 0 ∨ 9223372036854775807 - (i : Int) ≤ s
theorem NegSt.start {k : Int} (h : -9223372036854775808 ≤ k) (h0 : k < 0) : NegSt k 0 := ⟨h, by omega, .inl h0⟩
theorem NegSt.nz {s : Int} {i : Nat} (h : NegSt s i) (hi : i ≤ 768) : ¬ s = 0 := by have := h.neg; omega
theorem NegSt.stay {s : Int} {i : Nat} (h : NegSt s i) : NegSt s (i + 1) := ⟨h.lo, h.hi, by have := h.neg; omega⟩
theorem NegSt.next {s : Int} {i : Nat} (h : NegSt s i) (hi : i ≤ 768) : ∃ s', IntKind.i64.wrap (s - 1) = s' ∧ NegSt s' (i + 1) := by
  have h1 := h.lo
  have h2 := h.hi
  have h3 := h.neg
  by_cases he : s = -9223372036854775808
  · subst he
    exact ⟨9223372036854775807, by decide, by omega, by omega, .inr (by omega)⟩
  · refine ⟨s - 1, ?_, by omega, by omega, by omega⟩
    simp [IntKind.wrap, IntKind.bits, IntKind.signed]
    omega

set_option maxHeartbeats 1000000 in
theorem rselect_any (A : Option Addr) (n cp : Nat) (f : Nat → Bool) (k : Int) (w : World) (h : BL w A n f) (hn : n ≤ 768) (hk : Fits63 k) (hk2 : (Lit.int .i64 k).wf = true) :
    Calls Tryd.prog 21 #[.slice A n cp, .int .i64 k] w (Ret (.int .i64 (selI f n k)) w) := by
  have HS := Lib.hid h
  clear h
  by_cases h0 : 0 ≤ k
  · obtain ⟨k, rfl⟩ := Int.eq_ofNat_of_zero_le h0
    have HK := Lib.hid hk
    clear hk hk2 h0
    go_enter Tryd.func21, Tryd.ntmps21
    go_wp2
    go_loopw [1, 5] (fun s1 s5 wr => ∃ i : Nat, s5 = .int .i64 i ∧ i ≤ n ∧ s1 = .int .i64 ((k : Int) - Lp.cnt f i) ∧ Lp.cnt f i ≤ k ∧ ∃ m, wr = w.drewN m) (fun _ s5 _ => n - (intOf s5).toNat)
    case atStart => exact ⟨0, rfl, Nat.zero_le _, by rw [show Lp.cnt f 0 = 0 from rfl] <;> congr 1 <;> omega, by rw [show Lp.cnt f 0 = 0 from rfl]; omega, 0, rfl⟩
    case round =>
      obtain ⟨i, rfl, hin, rfl, hck, m, rfl⟩ := hrel
      by_cases hlt : i < n
      · have hlti : (i : Int) < n := by omega
        obtain ⟨b, off, rfl, hc⟩ := HS.out.at (by omega)
        have e1 := hc i hlt m
        clear hc
        have hsu : Lp.cnt f (i + 1) = Lp.cnt f i + if f i then 1 else 0 := rfl
        cases hf : f i
        · rw [hf] at e1 hsu
          have HSU := Lib.hid hsu
          clear hf hsu
          generalize hC : Lp.cnt f i = C at *
          clear hC
          go_wp2
          go_roundw
          case rel => exact ⟨i + 1, by go_num, hlt, by rw [HSU.out] <;> first | rfl | (congr 1 <;> simp), by rw [HSU.out]; simpa using hck, _, rfl⟩
          case measure => simp [intOf] <;> omega
        · rw [hf] at e1 hsu
          by_cases hkc : k = Lp.cnt f i
          · have hr : selI f n (k : Int) = (i : Int) := by
              rw [selI, if_pos, Int.toNat_natCast]
              · refine Lp.leastD_some hlt (by simp [hf, hkc]) fun j hj => ?_
                cases hfj : f j
                · rfl
                · have := cnt_lt hj hfj
                  simp; omega
              · have := cnt_lt hlt hf; omega
            have hz : (k : Int) - Lp.cnt f i = 0 := by omega
            rw [hz]
            have HR := Lib.hid hr
            clear hr hz hsu hf hkc
            go_wp2
            try rw [Exit.noGoto_ret]
            go_ret
            exact ⟨by rw [HR.out] <;> rfl, _, rfl⟩
          · have HSU := Lib.hid hsu
            clear hf hsu
            have hwr := i64_down HK.out (show Lp.cnt f i < k by omega)
            have hnz : ¬ (k : Int) - Lp.cnt f i = 0 := by omega
            generalize hC : Lp.cnt f i = C at *
            clear hC
            go_wp2
            go_roundw
            case rel => exact ⟨i + 1, by go_num, hlt, by rw [HSU.out] <;> first | rfl | (congr 1 <;> simp <;> omega), by rw [HSU.out]; simp <;> omega, _, rfl⟩
            case measure => simp [intOf] <;> omega
      · obtain rfl : i = n := by omega
        have hr : selI f i (k : Int) = -1 := by rw [selI, if_neg (by omega)]
        have HR := Lib.hid hr
        clear hr
        generalize Lp.cnt f i = C at *
        go_wp2
        go_ret
        exact ⟨by rw [HR.out] <;> rfl, _, rfl⟩
  · have hr : selI f n k = -1 := by rw [selI, if_neg (by omega)]
    rw [hr]
    have hlo := NegSt.start (i64_lo hk2) (show k < 0 by omega)
    clear hr hk hk2 h0
    go_enter Tryd.func21, Tryd.ntmps21
    go_wp2
    go_loopw [1, 5] (fun s1 s5 wr => ∃ i : Nat, s5 = .int .i64 i ∧ i ≤ n ∧ (∃ s : Int, s1 = .int .i64 s ∧ NegSt s i) ∧ ∃ m, wr = w.drewN m) (fun _ s5 _ => n - (intOf s5).toNat)
    case atStart => exact ⟨0, rfl, Nat.zero_le _, ⟨k, rfl, hlo⟩, 0, rfl⟩
    case round =>
      obtain ⟨i, rfl, hin, ⟨s, rfl, hst⟩, m, rfl⟩ := hrel
      have HST := Lib.hid hst
      have hnz : ¬ s = 0 := hst.nz (by omega)
      obtain ⟨s', hwr, hst'⟩ := hst.next (by omega)
      have HST' := Lib.hid hst'
      clear hst hst' hlo
      by_cases hlt : i < n
      · have hlti : (i : Int) < n := by omega
        obtain ⟨b, off, rfl, hc⟩ := HS.out.at (by omega)
        have e1 := hc i hlt m
        clear hc
        cases hf : f i
        · rw [hf] at e1
          clear hf
          go_wp2
          go_roundw
          case rel => exact ⟨i + 1, by go_num, hlt, ⟨s, rfl, HST.out.stay⟩, _, rfl⟩
          case measure => simp [intOf] <;> omega
        · rw [hf] at e1
          clear hf
          go_wp2
          go_roundw
          case rel => exact ⟨i + 1, by go_num, hlt, ⟨s', rfl, HST'.out⟩, _, rfl⟩
          case measure => simp [intOf] <;> omega
      · obtain rfl : i = n := by omega
        go_wp2
        go_ret
        exact ⟨rfl, _, rfl⟩
end Go.Proofs.YtldjemekncfmeaaDoor
