/-
  The walk of MarksWords: the law returns true. Condition: the table of math/bits lies; what was there stays as it is.
-/
import Derived.Test.YtmbiolhecheplaaDoorShm
import Derived.Deep.DeepCutAuto
namespace Go.Proofs.YtmbiolhecheplaaDoor
open Go.RowKit

/-! plain: no bracket, and no bit at all, beyond the bytes -/
theorem isB_beyond (G : Nat → Int) (n j : Nat) (h : n ≤ j) : isB (mwG G n) j = false := by
  have hj : 64 * (j / 64) + j % 64 = j := by omega
  unfold isB brW
  rw [BitVec.getLsbD_or]
  simp only [mwG]
  rw [mw_any G n (j / 64) (j % 64) (by omega), mw_any G n (j / 64) (j % 64) (by omega), hj]
  simp [show ¬ j < n from by omega]
theorem brB_bytes (G : Nat → Int) (n : Nat) : (brB (mwG G n) (64 * nwords n)).length ≤ n := by
  rw [brB_skip (a := n) (b := 64 * nwords n) (by unfold nwords; omega) fun j j1 _ => isB_beyond G n j j1]
  exact brB_len _ n
theorem mwG_beyond (G : Nat → Int) (n q c : Nat) (h : n - 64 * q ≤ 64) : mwG G n q c >>> (n - 64 * q) = 0#64 := by
  have e : min 64 (n - 64 * q) = n - 64 * q := by omega
  unfold mwG
  rw [e]
  split <;> exact Lo.mk_beyond _ h _
theorem last_beyond (G : Nat → Int) (n q : Nat) (h : n - 64 * q ≤ 64) : (mwG G n q 0 ||| mwG G n q 1 ||| mwG G n q 2 ||| mwG G n q 3 ||| mwG G n q 4 ||| mwG G n q 5 ||| mwG G n q 6) >>> (n - 64 * q) = 0#64 := by
  simp only [BitVec.ushiftRight_or_distrib, mwG_beyond G n q _ h]
  decide
attribute [local go_sem] U_or
set_option maxRecDepth 100000 in
set_option maxHeartbeats 2000000 in
theorem words_law (w : World) (hT : Tab w) (A : Option Addr) (n cp : Nat) (G : Nat → Int) (hb : BS w A n G) (hcp : n ≤ cp) (hf : cp ≤ 140737488351232) :
    Calls Tryd.prog 7 #[.slice A n cp] w (TrueIs w) := by
  have HT := Lib.hid hT
  have HB := Lib.hid hb
  have hkw : nwords n ≤ 2199023255552 := by unfold nwords; omega
  clear hT hb
  go_enter Tryd.func7, Tryd.ntmps7
  go_wp2_with fail
  refine (shown_any _ HT.out).mono ?_
  rintro e w1 ⟨rfl, hb1⟩
  have HB1 := Lib.hid hb1
  clear hb1
  go_wp2_with fail
  refine (build_any A n cp G _ (HB.out.bel HB1.out) (by omega) hcp (by omega)).mono ?_
  rintro e w2 ⟨A', cp', rfl, hcp', hws, hbel⟩
  have HWS := Lib.hid (hws.below ((Below.refl _ _).alloc (Nat.le_refl _) (.cells #[.slice A' (nwords n) cp', .int .i64 n] 27)))
  have HB2 := Lib.hid ((HB1.out.trans (hbel.mono HB1.out.size)).alloc (Nat.le_trans HB1.out.size hbel.size) (.cells #[.slice A' (nwords n) cp', .int .i64 n] 27))
  have hlt3 : w2.heap.size < (w2.alloc (.cells #[.slice A' (nwords n) cp', .int .i64 n] 27)).heap.size := by simp
  have HX := Lib.hid (Blk.newAt w2 27 #[.slice A' (nwords n) cp', .int .i64 n] rfl)
  clear hws hbel
  go_wp2_with fail
  refine (brackets_any A' (nwords n) cp' (mwG G n) n _ HWS.out (HT.out.below HB2.out) (by omega)).mono ?_
  rintro e w3 ⟨v3, rfl, hown3, hb3⟩
  obtain ⟨A3, cap3, rfl⟩ := own_slice hown3
  have x0 := (hb3.cell (p := ⟨w2.heap.size, 0, none⟩) hlt3).trans (HX.out.cell 0)
  have x1 := (hb3.cell (p := ⟨w2.heap.size, 1, none⟩) hlt3).trans (HX.out.cell 1)
  simp at x0 x1
  have hnb := brB_bytes G n
  have hw3 := HWS.out.below hb3
  have HB3 := Lib.hid (HB2.out.trans (hb3.mono HB2.out.size))
  have hx3 : w2.heap.size < w3.heap.size := (World.block_lt_of_cell? _ _ x0)
  have hbz : (brB (mwG G n) (64 * nwords n)).length ≤ n := hnb
  generalize hL : (brB (mwG G n) (64 * nwords n)).length = L at *
  have hA : ((nwords n : Nat) : Int) = ((n : Int) + 63) / 64 := by unfold nwords; omega
  have hB : ((bwords L : Nat) : Int) = ((L : Int) + 63) / 64 := by unfold bwords; omega
  have hAb : (((nwords n : Nat) : Int) == ((n : Int) + 63) / 64) = true := by rw [hA]; simp
  have hBb : (((bwords L : Nat) : Int) == ((L : Int) + 63) / 64) = true := by rw [hB]; simp
  have hC : (L : Int) ≤ (n : Int) := by omega
  have hN0 : (0 : Int) ≤ n := by omega
  have hN1 : (n : Int) ≤ 140737488351232 := by omega
  have HW3 := Lib.hid hw3
  clear hA hB hL hnb hb3 hown3 hw3 hlt3 HX HWS HB2 hbz
  by_cases h0 : n = 0
  · subst h0
    have hz : nwords 0 = 0 := by decide
    rw [hz] at x0 hAb hkw ⊢
    have hL0 : L = 0 := by omega
    subst hL0
    go_wp2
    try rw [Exit.noGoto_ret]
    go_ret
    exact ⟨rfl, HB3.out⟩
  · obtain ⟨q, hq⟩ : ∃ q, nwords n = q + 1 := ⟨nwords n - 1, by unfold nwords; omega⟩
    have hqn : n - 64 * q ≤ 64 ∧ 0 < n - 64 * q ∧ (n % 64 ≠ 0 → n % 64 = n - 64 * q) := by unfold nwords at hq; omega
    have hlast := last_beyond G n q hqn.1
    have hmod := hqn.2.2
    clear hqn
    rw [hq] at x0 hAb hkw ⊢
    obtain ⟨b, off, rfl, hc⟩ := HW3.out.resolve_left (by omega)
    have d0 : w3.cell? ⟨b, off + q * 7, none⟩ = some (.int .u64 (U (mwG G n q 0))) := hc q (by omega) 0 (by omega)
    have d1 := hc q (by omega) 1 (by omega)
    have d2 := hc q (by omega) 2 (by omega)
    have d3 := hc q (by omega) 3 (by omega)
    have d4 := hc q (by omega) 4 (by omega)
    have d5 := hc q (by omega) 5 (by omega)
    have d6 := hc q (by omega) 6 (by omega)
    have hAc : ((q : Int) + 1 == ((n : Int) + 63) / 64) = true := by rw [← hAb]; rfl
    have hp : (0 : Int) < (q : Int) + 1 := by omega
    have hqi : (q : Int) ≤ 2199023255552 := by omega
    clear hc hq hkw hf hcp h0 hAb
    generalize mwG G n q = mw at *
    generalize hkk : n - 64 * q = kk at *
    by_cases hk0 : n % 64 = 0
    · have hm0 : ((n : Int) % 64 == 0) = true := by rw [show (n : Int) % 64 = ((n % 64 : Nat) : Int) from rfl, hk0]; rfl
      clear hlast hmod hk0
      go_wp2
      try rw [Exit.noGoto_ret]
      go_ret
      refine ⟨rfl, ?_⟩
      exact HB3.out.alloc HB3.out.size _
    · have hmk := hmod hk0
      have hm0 : ((n : Int) % 64 == 0) = false := by rw [beq_eq_false_iff_ne]; omega
      have eK : (n : Int) % 64 = (kk : Int) := by omega
      have hkz : ((kk : Int) == 0) = false := by rw [beq_eq_false_iff_ne]; omega
      have hkk64 : kk < 64 := by omega
      have hsh : ∀ x : BitVec 64, U x / 2 ^ kk = U (x >>> kk) := fun x => U_shr x kk
      have hzero : (U ((mw 0 ||| mw 1 ||| mw 2 ||| mw 3 ||| mw 4 ||| mw 5 ||| mw 6) >>> kk) == 0) = true := by rw [hlast]; rfl
      clear hlast hmod hk0 hmk
      go_wp2
      try rw [Exit.noGoto_ret]
      go_ret
      refine ⟨rfl, ?_⟩
      exact HB3.out.alloc HB3.out.size _
end Go.Proofs.YtmbiolhecheplaaDoor
